/- patched of the reference. Printed by gen_pd.py. -/
import Derived.Test.YtkjgifhklajifaaPm20
import Derived.Test.YtkjgifhklajifaaPm22
import Derived.Deep.RegionWith
namespace Go.Proofs.Ytkjgifhklajifaa
open Go.RowKit
namespace Fd
open _root_.Go.Proofs.Ytkjgifhklajifaa.Nt (RH RH.cell RH.box RH.lt RH.new RH.ext RH.fre RH.set RH.other RH.row RH.row_other)
open _root_.Go.Proofs.Ytkjgifhklajifaa.Rw (All2 All2.get All2.length All2.mono wpList_load_agg wp_stored Kept Fresh fresh_own)
def PdAt (x : V) : Prop := ∀ (D : Nat → Prop) (y : V) (cs cy : List Value) (w : World), On D (fun Z => RepV Z x cs) w → On D (fun Z => RepV Z y cy) w → chkV x = 0 → chkV y = 0 → Calls Try.prog 17 #[.agg cs.toArray, .agg cy.toArray] w (MdPost D (patchV x y) w)
structure PdI (w X : World) (d : Nat) (A1 A2 : Array Value) (v4 : Value) : Prop where
  m : MdI w X d (.slice none 0 0) v4
  rf : RH X w.heap.size A1 25
  rt : RH X (w.heap.size + 1) A2 25
section
variable {w X X' : World} {d : Nat} {A1 A2 : Array Value} {v4 : Value}
theorem PdI.ext (h : PdI w X d A1 A2 v4) (hb : Below X.heap.size X X') : PdI w X' d A1 A2 v4 := ⟨h.m.ext hb, h.rf.ext hb, h.rt.ext hb⟩
theorem PdI.row (h : PdI w X d A1 A2 v4) (hd : w.heap.size + 2 < d) (v4' : Value) : PdI w (X.setRow d (vAr 5 0 eB (.slice none 0 0) v4')) d A1 A2 v4' :=
  ⟨h.m.row (by omega) (by omega) _ _, h.rf.row_other (by omega) _, h.rt.row_other (by omega) _⟩
theorem PdI.bx (h : PdI w X d A1 A2 v4) : Below w.heap.size w X := h.m.bx
theorem PdI.c (h : PdI w X d A1 A2 v4) : X.cell? ⟨d, 0, none⟩ = some (.int .i64 5) ∧ X.cell? ⟨d, 1, none⟩ = some (.int .i64 0) ∧ X.cell? ⟨d, 2, none⟩ = some (.string eB) ∧ X.cell? ⟨d, 3, none⟩ = some (.slice none 0 0) ∧ X.cell? ⟨d, 4, none⟩ = some v4 := h.m.c
end
set_option maxRecDepth 100000 in
set_option maxHeartbeats 16000000 in
theorem pd_not (x y : V) (D : Nat → Prop) (cs cy : List Value) (w : World) (hk : ¬ (kind x = 5 ∧ kind y = 5)) (hx : On D (fun Z => RepV Z x cs) w) (hp : On D (fun Z => RepV Z y cy) w) : Calls Try.prog 17 #[.agg cs.toArray, .agg cy.toArray] w (MdPost D (patchV x y) w) := by
  have hm : patchV x y = y := by
    obtain ⟨k, n, s, is, fs⟩ := x
    have hk' : k ≠ 5 ∨ kind y ≠ 5 := Classical.byContradiction fun h => by
      simp only [not_or, Classical.not_not] at h
      exact hk h
    simp only [patchV, if_pos hk']
  rw [hm]
  obtain ⟨k1, n1, s1, b1, b2, b3, b4, b5, b6, rfl⟩ := V5on hx
  obtain ⟨k2, n2, s2, e1, e2, e3, e4, e5, e6, rfl⟩ := V5on hp
  have hk9 : ¬ (k1 = 5 ∧ k2 = 5) := by rw [← rep_kind hx.now, ← rep_kind hp.now]; exact hk
  have HP := Lib.hid hp
  clear hm hk hx hp
  go_enter Try.func17, Try.ntmps17
  go_upto_region 1 with (fail)
  refine wp_vr3 fun W hbW hR1 hR2 hR3 => ?_
  have a0 : W.cell? ⟨w.heap.size, 0, none⟩ = some (.int .i64 k1) := hR1.cell 0
  obtain ⟨c0, c1, c2, c3, c4⟩ := va5 hR2
  have HR3 := Lib.hid hR3
  have hb := below_setRow hbW (show w.heap.size ≤ w.heap.size + 2 by omega) (vAr k2 n2 s2 (.slice e1 e2 e3) (.slice e4 e5 e6))
  have HFIN : Hid (MdPost D y w (.returned (.agg (vAr k2 n2 s2 (.slice e1 e2 e3) (.slice e4 e5 e6)))) (W.setRow (w.heap.size + 2) (vAr k2 n2 s2 (.slice e1 e2 e3) (.slice e4 e5 e6)))) := Lib.hid ⟨_, rfl, (HP.out.below hb).mono (fun _ _ h => .inl h), hb⟩
  clear hR1 hR2 hR3 hbW hb
  by_cases h1 : k1 = 5
  · have h2 : (k2 != 5) = true := by
      have : k2 ≠ 5 := fun e => hk9 ⟨h1, e⟩
      simpa using this
    subst h1
    clear hk9
    go_wp2_with (refine wpList_store_row rfl _ _ _ rfl (w.heap.size + 2) (vAr k2 n2 s2 (.slice e1 e2 e3) (.slice e4 e5 e6)) rfl rfl _ _ HR3.out (v_inf5 _ _ _ _ _) rfl (v_all5 _ _ _ _ _ _ _ _ _) ?_)
    exact bodyPost_ret (v := .agg (vAr k2 n2 s2 (.slice e1 e2 e3) (.slice e4 e5 e6))) (results_cell_row rfl _ _ _ _ _ _ _ rfl (HR3.out.row _) Try.underlying25 rfl (v_inf5 _ _ _ _ _)) rfl HFIN.out
  · have h2 : (k1 != 5) = true := by simpa using h1
    clear hk9 h1
    go_wp2_with (refine wpList_store_row rfl _ _ _ rfl (w.heap.size + 2) (vAr k2 n2 s2 (.slice e1 e2 e3) (.slice e4 e5 e6)) rfl rfl _ _ HR3.out (v_inf5 _ _ _ _ _) rfl (v_all5 _ _ _ _ _ _ _ _ _) ?_)
    exact bodyPost_ret (v := .agg (vAr k2 n2 s2 (.slice e1 e2 e3) (.slice e4 e5 e6))) (results_cell_row rfl _ _ _ _ _ _ _ rfl (HR3.out.row _) Try.underlying25 rfl (v_inf5 _ _ _ _ _)) rfl HFIN.out
set_option maxRecDepth 100000 in
set_option maxHeartbeats 16000000 in
theorem pd_obj (n : Int) (s : ByteArray) (is : List V) (fs : List F) (HI : ∀ f ∈ fs, PdAt (vlF f)) : ∀ (D : Nat → Prop) (y : V) (cs cy : List Value) (w : World), kind y = 5 → On D (fun Z => RepV Z (.mk 5 n s is fs) cs) w → On D (fun Z => RepV Z y cy) w → chkV (.mk 5 n s is fs) = 0 → chkV y = 0 →
    Calls Try.prog 17 #[.agg cs.toArray, .agg cy.toArray] w (MdPost D (patchV (.mk 5 n s is fs) y) w) := by
  intro D y cs cy w hk hx hp hcx hcp
  rw [patchV_obj rfl hk]
  have HU : Hid (Srt fs ∧ (∀ f ∈ fs, chkV (vlF f) = 0) ∧ fs.length ≤ 100) := Lib.hid ⟨(fields_ok hcx).1, (fields_ok hcx).2, (fs_len hcx).1⟩
  have HV : Hid (Srt (fields y) ∧ (∀ f ∈ fields y, chkV (vlF f) = 0) ∧ (fields y).length ≤ 100) := Lib.hid ⟨(fields_ok hcp).1, (fields_ok hcp).2, (fs_len hcp).1⟩
  obtain ⟨k2, n2, s2, is2, ts⟩ := y
  obtain rfl : k2 = 5 := hk
  obtain ⟨ai, ci, af, cf, EF, rfl, i1, i2, i3, _, hFS⟩ := on_open hx
  obtain ⟨bi, di, bf, df, YF, rfl, j1, j2, j3, _, hTS⟩ := on_open hp
  have HFS := Lib.hid hFS
  have HTS := Lib.hid hTS
  have HMG := Lib.hid HI
  change Hid (Srt ts ∧ (∀ f ∈ ts, chkV (vlF f) = 0) ∧ ts.length ≤ 100) at HV
  show Calls Try.prog 17 _ w (MdPost D (obj (putAll [] (ents fs ts))) w)
  have hul := HU.out.2.2
  have hvl := HV.out.2.2
  clear hx hp hFS hTS i1 i2 i3 j1 j2 j3 hcp hcx HI
  go_enter Try.func17, Try.ntmps17
  go_upto_region 1 with (fail)
  refine wp_vr3 fun W hbW hR1 hR2 hR3 => ?_
  have a0 : W.cell? ⟨w.heap.size, 0, none⟩ = some (.int .i64 5) := hR1.cell 0
  have c0 : W.cell? ⟨w.heap.size + 1, 0, none⟩ = some (.int .i64 5) := hR2.cell 0
  have HR1 := Lib.hid hR1
  have HR2 := Lib.hid hR2
  have HR3 := Lib.hid hR3
  have HBW := Lib.hid hbW
  have hdW : w.heap.size + 2 < W.heap.size := hR3.lt
  clear hR1 hR2 hR3 hbW
  go_upto_region 4 with (first | (refine wpList_store_row rfl _ _ _ rfl W.heap.size (vAr 5 0 eB (.slice none 0 0) (.slice none 0 0)) rfl rfl _ _ (RH.new _ _ _) (v_inf5 _ _ _ _ _) rfl (v_all5 _ _ _ _ _ _ _ _ _) ?_))
  refine wp_stored fun X0 hbV hRd => ?_
  have HD2 := Lib.hid hdW
  have HP0 : Hid (PdI w X0 W.heap.size (vAr 5 n s (.slice ai is.length ci) (.slice af fs.length cf)) (vAr 5 n2 s2 (.slice bi is2.length di) (.slice bf ts.length df)) (.slice none ([] : List F).length 0)) := Lib.hid ⟨⟨hRd, ⟨_, HR3.out.ext hbV, rfl⟩, ext_trans HBW.out hbV⟩, HR1.out.ext hbV, HR2.out.ext hbV⟩
  have c4 : X0.cell? ⟨w.heap.size, 4, none⟩ = some (.slice af fs.length cf) := (HR1.out.ext hbV).cell 4
  clear a0 c0 hbV hRd HR1 HR2 HR3 HBW hdW
  generalize W.heap.size = d at *
  have HT0 : Hid (FR (inD D w.heap.size (d + 1)) X0 [] (.slice none ([] : List F).length 0) []) := Lib.hid (FR.nil _ _)
  have HO0 : Hid (([] : List F) = putAll [] (patchFs (fs.take 0) ts)) := Lib.hid (by rw [List.take_zero]; simp only [patchFs]; rfl)
  go_wp2_with fail
  go_loopw [27] (fun i wr => ∃ (q : Nat) (out : List F) (av : Option Addr) (cv : Nat) (E : List (List Value)), q ≤ fs.length ∧ i = .int .i64 (q : Int) ∧ Hid (out = putAll [] (patchFs (fs.take q) ts)) ∧ Hid (PdI w wr d (vAr 5 n s (.slice ai is.length ci) (.slice af fs.length cf)) (vAr 5 n2 s2 (.slice bi is2.length di) (.slice bf ts.length df)) (.slice av out.length cv)) ∧ Hid (FR (inD D w.heap.size (d + 1)) wr out (.slice av out.length cv) E)) (fun i _ => fs.length - (intOf i).toNat)
  case atStart => exact ⟨0, [], none, 0, [], Nat.zero_le _, rfl, HO0, HP0, HT0⟩
  case round =>
    clear HP0 HT0 HO0
    obtain ⟨q, out, av, cv, E, hq, rfl, HO, HP, HT⟩ := hrel
    generalize hXX : wr = X at *
    clear hXX c4
    have hol : out.length ≤ 100 := by
      have h1 := patchFs_len ts (fs.take q)
      have h2 := putAll_len (patchFs (fs.take q) ts) []
      rw [← HO.out] at h2
      rw [List.length_take] at h1
      simp only [List.length_nil] at h2
      omega
    by_cases hlt : q < fs.length
    · obtain ⟨f, hfu⟩ : ∃ f, fs[q]? = some f := ⟨_, List.getElem?_eq_getElem hlt⟩
      have hPX := HFS.out.below HP.out.bx
      obtain ⟨cy, hcy, hry0⟩ := All2.get (on_all (On.map hPX (fun _ h => h.2))) hfu
      have hry := On.now hry0
      obtain ⟨p, o, e0, hp0, hcell⟩ := sl_elem (On.now hPX).1 (all_len (fun _ _ => RepF.len) (On.now hPX).2) (by omega) hcy
      subst e0
      obtain ⟨nm, y⟩ := f
      have hry2 := hry
      simp only [RepF] at hry2
      obtain ⟨cv5, rfl, hnm, hrv⟩ := hry2
      obtain ⟨ky, ny, sy, a1, m1, r1, a2, m2, r2, rfl⟩ := V5 hrv
      have HFU := Lib.hid hfu
      have HNM := Lib.hid hnm
      have HRV : Hid (On (inD D w.heap.size (d + 1)) (fun Z => RepV Z y [.int .i64 ky, .int .i64 ny, .string sy, .slice a1 m1 r1, .slice a2 m2 r2]) X) := Lib.hid (On.start (on_value ((All2.get (on_all (On.map HFS.out (fun _ h => h.2))) HFU.out).elim (fun c9 h9 => by have h8 := h9.1; rw [hcy] at h8; cases h8; exact h9.2))) HP.out.bx)
      have HINF := Lib.hid (f_info hry)
      have HONE := Lib.hid (all_arr (RepF.one hry))
      have hqi : (q : Int) < (fs.length : Int) := by omega
      clear hfu hcy hry0 hry hnm hrv hp0 hPX
      go_upto_region 7 with (first | (refine wpList_load_agg rfl _ _ rfl p (o + q * 6) (by rfl) [.string nm, .int .i64 ky, .int .i64 ny, .string sy, .slice a1 m1 r1, .slice a2 m2 r2] (fun j v hj => by rw [Nat.add_assoc]; exact hcell j v hj) _ Try.underlying38 rfl HINF.out ?_) | (refine wpList_store_row rfl _ _ _ rfl X.heap.size #[.string nm, .int .i64 ky, .int .i64 ny, .string sy, .slice a1 m1 r1, .slice a2 m2 r2] rfl rfl _ _ (RH.new _ _ _) HINF.out rfl HONE.out ?_))
      refine wp_stored fun Y hbY hRf => ?_
      replace HRV := Lib.hid (HRV.out.below hbY)
      have HPY := Lib.hid (HP.out.ext hbY)
      have HTY := Lib.hid (HT.out.below hbY)
      have HRF := Lib.hid hRf
      have HYS : Hid ((d + 1) ≤ Y.heap.size) := Lib.hid (Nat.le_trans (by have h9 := HP.out.m.rv.lt; omega) hbY.size)
      have f0 : Y.cell? ⟨X.heap.size, 0, none⟩ = some (.string nm) := hRf.cell 0
      have f1 : Y.cell? ⟨X.heap.size, 1, none⟩ = some (.int .i64 ky) := hRf.cell 1
      have f2 : Y.cell? ⟨X.heap.size, 2, none⟩ = some (.int .i64 ny) := hRf.cell 2
      have f3 : Y.cell? ⟨X.heap.size, 3, none⟩ = some (.string sy) := hRf.cell 3
      have f4 : Y.cell? ⟨X.heap.size, 4, none⟩ = some (.slice a1 m1 r1) := hRf.cell 4
      have f5 : Y.cell? ⟨X.heap.size, 5, none⟩ = some (.slice a2 m2 r2) := hRf.cell 5
      clear hbY hRf hcell HP HT HINF HONE
      generalize X.heap.size = fb at *
      have HST : Hid (putAll [] (patchFs (fs.take (q + 1)) ts) = putAll out (patch1 nm y ts)) := Lib.hid (by rw [take_snoc HFU.out, patchFs_snoc, HO.out]; unfold putAll; rw [List.foldl_append])
      have HCY : Hid (chkV y = 0) := Lib.hid (HU.out.2.1 _ (List.mem_of_getElem? HFU.out))
      have HMC : Hid (PdAt y) := Lib.hid (HMG.out _ (List.mem_of_getElem? HFU.out))
      have HSY : Hid (FR (inD D w.heap.size (d + 1)) Y ts (.slice bf ts.length df) YF) := Lib.hid (On.start HTS.out HPY.out.bx)
      have HFO := Lib.hid (fieldP_at (pOn (inD D w.heap.size (d + 1)) Y) 5 n2 s2 bi is2.length di ts bf df YF nm Y (Below.refl _ _) HSY.out.sl HSY.out.all)
      obtain ⟨t0, t1, t2, t3, t4⟩ := va5 (HPY.out.rt)
      have HSO : Hid (Srt out) := Lib.hid (by rw [HO.out]; exact srt_putAll List.Pairwise.nil)
      clear HO
      go_upto_region 8 with (first
        | (go_at_call 27; refine HFO.out.mono ?_; rintro e w2 ⟨co, rfl, hFO, hb2⟩; have hON : On (inD D w.heap.size (d + 1)) (fun Z => RepV Z ((lk ts nm).getD V0) co) w2 := fop_on hFO hb2; obtain ⟨k8, n8, s8, a8, m8, r8, a9, m9, r9, rfl⟩ := V5on hON; have HON := Lib.hid hON; have HP2 := Lib.hid (HPY.out.ext hb2); have HT2 := Lib.hid (HTY.out.below hb2); have HRV2 := Lib.hid (HRV.out.below hb2); have HRF2 := Lib.hid (HRF.out.ext hb2); have HWS2 : Hid (d + 1 ≤ w2.heap.size) := Lib.hid (Nat.le_trans HYS.out hb2.size); have hsome : (fofK 5 ts nm).isSome = (lk ts nm).isSome := rfl; clear hFO hON hb2 HFO t0 t1 t2 t3 t4 f0 f1 f2 f3 f4 f5)
        | (refine wpList_store_row rfl _ _ _ rfl w2.heap.size (vAr k8 n8 s8 (.slice a8 m8 r8) (.slice a9 m9 r9)) rfl rfl _ _ (RH.new _ _ _) (v_inf5 _ _ _ _ _) rfl (v_all5 _ _ _ _ _ _ _ _ _) ?_))
      refine wp_stored fun Y2 hbY2 hRo => ?_
      have HP4 := Lib.hid (HP2.out.ext hbY2)
      have HT4 := Lib.hid (HT2.out.below hbY2)
      have HOL := Lib.hid (HON.out.below hbY2)
      have HRV4 := Lib.hid (HRV2.out.below hbY2)
      have HRF4 := Lib.hid (HRF2.out.ext hbY2)
      have HWS4 : Hid (d + 1 ≤ Y2.heap.size) := Lib.hid (Nat.le_trans HWS2.out hbY2.size)
      have HRO := Lib.hid hRo
      generalize w2.heap.size = ob at *
      clear hRo hbY2 HP2 HT2 HON HRV2 HRF2 HWS2 HSY HRV HRF HPY HTY HYS
      cases hl : lk ts nm with
      | none =>
        have HLN : Hid (lk ts nm = none) := Lib.hid hl
        have hb9 : (fofK 5 ts nm).isSome = false := by rw [hsome, hl]; rfl
        have HO2 : Hid (putF nm V0 out = putAll [] (patchFs (fs.take (q + 1)) ts)) := Lib.hid (by rw [HST.out]; unfold patch1; rw [HLN.out]; rfl)
        have HPU := Lib.hid (putP_at 5 0 eB none 0 0 out av cv E nm V0 _ Y2 (pOn (inD D w.heap.size (d + 1)) Y2) HT4.out.sl HT4.out.all (rep_zero _) (on_field (on_zero _ _) HNM.out) HSO.out (by omega) HNM.out)
        obtain ⟨d0, d1, d2, d3, d4⟩ := HP4.out.c
        have f0 : Y2.cell? ⟨fb, 0, none⟩ = some (.string nm) := HRF4.out.cell 0
        clear hl hsome HST HCY HMC HSO HLN
        go_wp2_with (first
          | (go_at_call 28; refine HPU.out.mono ?_; rintro e w1 ⟨a1', c1', E1, rfl, hO1, hb1⟩; have HP1 := Lib.hid (HP4.out.ext hb1); have HT1 := Lib.hid (FR.ofQ hO1 hb1 HWS4.out); clear hO1 hb1 HPU d0 d1 d2 d3 d4 f0)
          | (refine wpList_store_row rfl _ _ _ rfl d (vAr 5 0 eB (.slice none 0 0) (.slice a1' (putF nm V0 out).length c1')) rfl rfl _ _ HP1.out.m.rv (v_inf5 _ _ _ _ _) rfl (v_all5 _ _ _ _ _ _ _ _ _) ?_))
        go_roundw
        case rel => exact ⟨q + 1, _, a1', c1', E1, by omega, by go_num, HO2, Lib.hid (HP1.out.row HD2.out _), Lib.hid (On.setRow HT1.out (by have := HD2.out; omega) (by omega))⟩
        case measure => simp [intOf]; omega
      | some x' =>
        have HLN : Hid (lk ts nm = some x') := Lib.hid hl
        have hb9 : (fofK 5 ts nm).isSome = true := by rw [hsome, hl]; rfl
        have HCX : Hid (chkV x' = 0) := Lib.hid (HV.out.2.1 _ (lk_mem hl))
        rw [hl] at HOL
        replace HOL : Hid (On (inD D w.heap.size (d + 1)) (fun Z => RepV Z x' [.int .i64 k8, .int .i64 n8, .string s8, .slice a8 m8 r8, .slice a9 m9 r9]) Y2) := HOL
        obtain ⟨o0, o1, o2, o3, o4⟩ := va5 HRO.out
        have f0 : Y2.cell? ⟨fb, 0, none⟩ = some (.string nm) := HRF4.out.cell 0
        have f1 : Y2.cell? ⟨fb, 1, none⟩ = some (.int .i64 ky) := HRF4.out.cell 1
        have f2 : Y2.cell? ⟨fb, 2, none⟩ = some (.int .i64 ny) := HRF4.out.cell 2
        have f3 : Y2.cell? ⟨fb, 3, none⟩ = some (.string sy) := HRF4.out.cell 3
        have f4 : Y2.cell? ⟨fb, 4, none⟩ = some (.slice a1 m1 r1) := HRF4.out.cell 4
        have f5 : Y2.cell? ⟨fb, 5, none⟩ = some (.slice a2 m2 r2) := HRF4.out.cell 5
        obtain ⟨z, hz⟩ : ∃ z, cmpV y x' = z := ⟨_, rfl⟩
        have HZ := Lib.hid hz
        have HCM := Lib.hid (ref_at y x' _ _ Y2 HRV4.out.now HOL.out.now)
        rw [hz] at HCM
        clear hl hz hsome
        go_wp2_with fail
        refine HCM.out.mono ?_
        rintro e w5 ⟨rfl, hb5⟩
        have HP5 := Lib.hid (HP4.out.ext hb5)
        have HT5 := Lib.hid (HT4.out.below hb5)
        have HOL5 := Lib.hid (HOL.out.below hb5)
        have HRV5 := Lib.hid (HRV4.out.below hb5)
        have HRF5 := Lib.hid (HRF4.out.ext hb5)
        have HRO5 := Lib.hid (HRO.out.ext hb5)
        have HWS5 : Hid (d + 1 ≤ w5.heap.size) := Lib.hid (Nat.le_trans HWS4.out hb5.size)
        clear hb5 o0 o1 o2 o3 o4 f0 f1 f2 f3 f4 f5
        obtain ⟨o0, o1, o2, o3, o4⟩ := va5 HRO5.out
        have f0 : w5.cell? ⟨fb, 0, none⟩ = some (.string nm) := HRF5.out.cell 0
        have f1 : w5.cell? ⟨fb, 1, none⟩ = some (.int .i64 ky) := HRF5.out.cell 1
        have f2 : w5.cell? ⟨fb, 2, none⟩ = some (.int .i64 ny) := HRF5.out.cell 2
        have f3 : w5.cell? ⟨fb, 3, none⟩ = some (.string sy) := HRF5.out.cell 3
        have f4 : w5.cell? ⟨fb, 4, none⟩ = some (.slice a1 m1 r1) := HRF5.out.cell 4
        have f5 : w5.cell? ⟨fb, 5, none⟩ = some (.slice a2 m2 r2) := HRF5.out.cell 5
        by_cases hz0 : z = 0
        · have HO2 : Hid (out = putAll [] (patchFs (fs.take (q + 1)) ts)) := Lib.hid (by rw [HST.out]; unfold patch1; rw [HLN.out]; simp only; rw [HZ.out, if_neg (by rw [hz0]; decide)]; rfl)
          subst hz0
          clear HST HCY HMC HCX HSO HLN
          go_wp2_with fail
          go_roundw
          case rel => exact ⟨q + 1, out, av, cv, E, by omega, by go_num, HO2, HP5, HT5⟩
          case measure => simp [intOf]; omega
        · have hzb : (z != 0) = true := by simpa using hz0
          have HO2 : Hid (putF nm (patchV y x') out = putAll [] (patchFs (fs.take (q + 1)) ts)) := Lib.hid (by rw [HST.out]; unfold patch1; rw [HLN.out]; simp only; rw [HZ.out, if_pos hz0]; rfl)
          have HPC : Hid (∀ W9, Below w5.heap.size w5 W9 → Calls Try.prog 17 #[.agg #[.int .i64 ky, .int .i64 ny, .string sy, .slice a1 m1 r1, .slice a2 m2 r2], .agg #[.int .i64 k8, .int .i64 n8, .string s8, .slice a8 m8 r8, .slice a9 m9 r9]] W9 (MdPost (inD D w.heap.size (d + 1)) (patchV y x') W9)) := Lib.hid (fun W9 hW => HMC.out (inD D w.heap.size (d + 1)) x' _ _ W9 (HRV5.out.below hW) (HOL5.out.below hW) HCY.out HCX.out)
          obtain ⟨d0, d1, d2, d3, d4⟩ := HP5.out.c
          clear HST HMC HCY HCX HLN HP4 HT4 HOL HRV4 HRF4 HRO HWS4
          go_upto_region 11 with (fail)
          refine Grow.wp_region_grow 7 [TP.eq (.agg #[.int .i64 5, .int .i64 0, .string eB, .slice none 0 0, .slice av out.length cv]), TP.eq (.pointer (some ⟨fb, 0, none⟩)), TP.eq (.string nm), TP.eq (.pointer (some ⟨fb, 1, none⟩)), TP.eq (.agg #[.int .i64 ky, .int .i64 ny, .string sy, .slice a1 m1 r1, .slice a2 m2 r2]), TP.eq (.agg #[.int .i64 k8, .int .i64 n8, .string s8, .slice a8 m8 r8, .slice a9 m9 r9]), TPm (inD D w.heap.size (d + 1)) (patchV y x')] [[], [], [1], [], [3], [], [4, 5]] (by kernel_rfl) (by kernel_rfl) ⟨?o0e, ?o1e, ?o2e, ?o3e, ?o4e, ?o5e, ?o6e, trivial⟩ ?tle
          case o0e =>
            intro w' hb
            have d0' : w'.cell? ⟨d, 0, none⟩ = some (.int .i64 5) := (hb.cell (World.block_lt_of_cell? _ _ d0)).trans d0
            have d1' : w'.cell? ⟨d, 1, none⟩ = some (.int .i64 0) := (hb.cell (World.block_lt_of_cell? _ _ d1)).trans d1
            have d2' : w'.cell? ⟨d, 2, none⟩ = some (.string eB) := (hb.cell (World.block_lt_of_cell? _ _ d2)).trans d2
            have d3' : w'.cell? ⟨d, 3, none⟩ = some (.slice none 0 0) := (hb.cell (World.block_lt_of_cell? _ _ d3)).trans d3
            have d4' : w'.cell? ⟨d, 4, none⟩ = some (.slice av out.length cv) := (hb.cell (World.block_lt_of_cell? _ _ d4)).trans d4
            show wpList _ _ _ _ _ _
            go_wp2
            exact ⟨rfl, Below.refl _ _, rfl⟩
          case o1e =>
            intro w' hb
            show wpList _ _ _ _ _ _
            go_wp2
            exact ⟨rfl, Below.refl _ _, rfl⟩
          case o2e =>
            intro w' hb v1 hv1
            have f0' : w'.cell? ⟨fb, 0, none⟩ = some (.string nm) := (hb.cell (World.block_lt_of_cell? _ _ f0)).trans f0
            obtain rfl : v1 = _ := hv1
            show wpList _ _ _ _ _ _
            simp only [Grow.dstOf, List.getElem?_toArray, List.getElem?_cons_succ, List.getElem?_cons_zero, Option.bind_some, Act.put, List.setIfInBounds_toArray, List.set_cons_succ, List.set_cons_zero]
            go_wp2
            exact ⟨rfl, Below.refl _ _, rfl⟩
          case o3e =>
            intro w' hb
            show wpList _ _ _ _ _ _
            go_wp2
            exact ⟨rfl, Below.refl _ _, rfl⟩
          case o4e =>
            intro w' hb v3 hv3
            have f1' : w'.cell? ⟨fb, 1, none⟩ = some (.int .i64 ky) := (hb.cell (World.block_lt_of_cell? _ _ f1)).trans f1
            have f2' : w'.cell? ⟨fb, 2, none⟩ = some (.int .i64 ny) := (hb.cell (World.block_lt_of_cell? _ _ f2)).trans f2
            have f3' : w'.cell? ⟨fb, 3, none⟩ = some (.string sy) := (hb.cell (World.block_lt_of_cell? _ _ f3)).trans f3
            have f4' : w'.cell? ⟨fb, 4, none⟩ = some (.slice a1 m1 r1) := (hb.cell (World.block_lt_of_cell? _ _ f4)).trans f4
            have f5' : w'.cell? ⟨fb, 5, none⟩ = some (.slice a2 m2 r2) := (hb.cell (World.block_lt_of_cell? _ _ f5)).trans f5
            obtain rfl : v3 = _ := hv3
            show wpList _ _ _ _ _ _
            simp only [Grow.dstOf, List.getElem?_toArray, List.getElem?_cons_succ, List.getElem?_cons_zero, Option.bind_some, Act.put, List.setIfInBounds_toArray, List.set_cons_succ, List.set_cons_zero]
            go_wp2
            exact ⟨rfl, Below.refl _ _, rfl⟩
          case o5e =>
            intro w' hb
            have o0' : w'.cell? ⟨ob, 0, none⟩ = some (.int .i64 k8) := (hb.cell (World.block_lt_of_cell? _ _ o0)).trans o0
            have o1' : w'.cell? ⟨ob, 1, none⟩ = some (.int .i64 n8) := (hb.cell (World.block_lt_of_cell? _ _ o1)).trans o1
            have o2' : w'.cell? ⟨ob, 2, none⟩ = some (.string s8) := (hb.cell (World.block_lt_of_cell? _ _ o2)).trans o2
            have o3' : w'.cell? ⟨ob, 3, none⟩ = some (.slice a8 m8 r8) := (hb.cell (World.block_lt_of_cell? _ _ o3)).trans o3
            have o4' : w'.cell? ⟨ob, 4, none⟩ = some (.slice a9 m9 r9) := (hb.cell (World.block_lt_of_cell? _ _ o4)).trans o4
            show wpList _ _ _ _ _ _
            go_wp2
            exact ⟨rfl, Below.refl _ _, rfl⟩
          case o6e =>
            intro w' hb v4 hv4 v5 hv5
            obtain rfl : v4 = _ := hv4
            obtain rfl : v5 = _ := hv5
            show wpList _ _ _ _ _ _
            simp only [Grow.dstOf, List.getElem?_toArray, List.getElem?_cons_succ, List.getElem?_cons_zero, Option.bind_some, Act.put, List.setIfInBounds_toArray, List.set_cons_succ, List.set_cons_zero]
            go_wp2_with fail
            refine (HPC.out w' hb).mono ?_
            rintro e wz ⟨c9, rfl, hf9, hbz9⟩
            go_wp2
            exact ⟨⟨c9, rfl, On.calls hf9 (Nat.le_trans HWS5.out hb.size)⟩, hbz9, rfl⟩
          case tle =>
            intro w3 hbz u0 hu0 u1 hu1 u2 hu2 u3 hu3 u4 hu4 u5 hu5 u6 hu6
            obtain rfl : u0 = _ := hu0
            obtain rfl : u1 = _ := hu1
            obtain rfl : u2 = _ := hu2
            obtain rfl : u3 = _ := hu3
            obtain rfl : u4 = _ := hu4
            obtain rfl : u5 = _ := hu5
            obtain ⟨c9, rfl, hf9⟩ := hu6
            obtain ⟨k6, n6, s6, a6, m6, r6, a7, m7, r7, rfl⟩ := V5on hf9
            have HP6 := Lib.hid (HP5.out.ext hbz)
            have HT6 := Lib.hid (HT5.out.below hbz)
            have HPU := Lib.hid (putP_at 5 0 eB none 0 0 out av cv E nm (patchV y x') _ w3 (pOn (inD D w.heap.size ((d + 1))) w3) HT6.out.sl HT6.out.all hf9.now (on_field hf9 HNM.out) HSO.out (by omega) HNM.out)
            have HW6 : Hid ((d + 1) ≤ w3.heap.size) := Lib.hid (Nat.le_trans HWS5.out hbz.size)
            clear HPC d0 d1 d2 d3 d4 o0 o1 o2 o3 o4 f0 f1 f2 f3 f4 f5 HP5 HT5 HWS5 HOL5 HRV5 hf9 hbz
            show wpList _ _ _ _ _ _
            simp only [Act.put, List.setIfInBounds_toArray, List.set_cons_succ, List.set_cons_zero]
            go_wp2_with (first
              | (go_at_call 28; refine HPU.out.mono ?_; rintro e w1 ⟨a1', c1', E1, rfl, hO1, hb1⟩; have HP1 := Lib.hid (HP6.out.ext hb1); have HT1 := Lib.hid (FR.ofQ hO1 hb1 HW6.out); clear hO1 hb1 HPU)
              | (refine wpList_store_row rfl _ _ _ rfl (d) (vAr 5 0 eB (.slice none 0 0) (.slice a1' (putF nm (patchV y x') out).length c1')) rfl rfl _ _ HP1.out.m.rv (v_inf5 _ _ _ _ _) rfl (v_all5 _ _ _ _ _ _ _ _ _) ?_))
            go_roundw
            case rel => exact ⟨q + 1, _, a1', c1', E1, by omega, by go_num, HO2, Lib.hid (HP1.out.row HD2.out _), Lib.hid (On.setRow HT1.out (by have := HD2.out; omega) (by omega))⟩
            case measure => simp [intOf]; omega
    · obtain rfl : q = fs.length := by omega
      have HO1 : Hid (out = putAll [] (patchFs fs ts ++ newF fs (ts.take 0))) := Lib.hid (by rw [HO.out, List.take_length, List.take_zero]; congr 1; exact (List.append_nil _).symm)
      have c5 : X.cell? ⟨w.heap.size + 1, 4, none⟩ = some (.slice bf ts.length df) := HP.out.rt.cell 4
      clear hlt hq HO hol
      go_wp2_with fail
      go_loopw [64] (fun i wr => ∃ (q : Nat) (out : List F) (av : Option Addr) (cv : Nat) (E : List (List Value)), q ≤ ts.length ∧ i = .int .i64 (q : Int) ∧ Hid (out = putAll [] (patchFs fs ts ++ newF fs (ts.take q))) ∧ Hid (PdI w wr d (vAr 5 n s (.slice ai is.length ci) (.slice af fs.length cf)) (vAr 5 n2 s2 (.slice bi is2.length di) (.slice bf ts.length df)) (.slice av out.length cv)) ∧ Hid (FR (inD D w.heap.size (d + 1)) wr out (.slice av out.length cv) E)) (fun i _ => ts.length - (intOf i).toNat)
      case atStart => exact ⟨0, out, av, cv, E, Nat.zero_le _, rfl, HO1, HP, HT⟩
      case round =>
        clear HP HT HO1
        obtain ⟨q, out, av, cv, E, hq, rfl, HO, HP, HT⟩ := hrel
        generalize hXX : wr = X at *
        clear hXX c5
        have hol : out.length ≤ 200 := by
          have h1 := patchFs_len ts fs
          have h2 := newF_len fs (ts.take q)
          have h3 := putAll_len (patchFs fs ts ++ newF fs (ts.take q)) []
          rw [← HO.out, List.length_append] at h3
          rw [List.length_take] at h2
          simp only [List.length_nil] at h3
          omega
        by_cases hlt : q < ts.length
        · obtain ⟨f, hfu⟩ : ∃ f, ts[q]? = some f := ⟨_, List.getElem?_eq_getElem hlt⟩
          have hPX := HTS.out.below HP.out.bx
          obtain ⟨cy, hcy, hry0⟩ := All2.get (on_all (On.map hPX (fun _ h => h.2))) hfu
          have hry := On.now hry0
          obtain ⟨p, o, e0, hp0, hcell⟩ := sl_elem (On.now hPX).1 (all_len (fun _ _ => RepF.len) (On.now hPX).2) (by omega) hcy
          subst e0
          obtain ⟨nm, y⟩ := f
          have hry2 := hry
          simp only [RepF] at hry2
          obtain ⟨cv5, rfl, hnm, hrv⟩ := hry2
          obtain ⟨ky, ny, sy, a1, m1, r1, a2, m2, r2, rfl⟩ := V5 hrv
          have HFU := Lib.hid hfu
          have HNM := Lib.hid hnm
          have HRV : Hid (On (inD D w.heap.size (d + 1)) (fun Z => RepV Z y [.int .i64 ky, .int .i64 ny, .string sy, .slice a1 m1 r1, .slice a2 m2 r2]) X) := Lib.hid (On.start (on_value ((All2.get (on_all (On.map HTS.out (fun _ h => h.2))) HFU.out).elim (fun c9 h9 => by have h8 := h9.1; rw [hcy] at h8; cases h8; exact h9.2))) HP.out.bx)
          have HINF := Lib.hid (f_info hry)
          have HONE := Lib.hid (all_arr (RepF.one hry))
          have hqi : (q : Int) < (ts.length : Int) := by omega
          clear hfu hcy hry0 hry hnm hrv hp0 hPX
          go_upto_region 16 with (first | (refine wpList_load_agg rfl _ _ rfl p (o + q * 6) (by rfl) [.string nm, .int .i64 ky, .int .i64 ny, .string sy, .slice a1 m1 r1, .slice a2 m2 r2] (fun j v hj => by rw [Nat.add_assoc]; exact hcell j v hj) _ Try.underlying38 rfl HINF.out ?_) | (refine wpList_store_row rfl _ _ _ rfl X.heap.size #[.string nm, .int .i64 ky, .int .i64 ny, .string sy, .slice a1 m1 r1, .slice a2 m2 r2] rfl rfl _ _ (RH.new _ _ _) HINF.out rfl HONE.out ?_))
          refine wp_stored fun Y hbY hRf => ?_
          replace HRV := Lib.hid (HRV.out.below hbY)
          have HPY := Lib.hid (HP.out.ext hbY)
          have HTY := Lib.hid (HT.out.below hbY)
          have HRF := Lib.hid hRf
          have HYS : Hid ((d + 1) ≤ Y.heap.size) := Lib.hid (Nat.le_trans (by have h9 := HP.out.m.rv.lt; omega) hbY.size)
          have f0 : Y.cell? ⟨X.heap.size, 0, none⟩ = some (.string nm) := hRf.cell 0
          have f1 : Y.cell? ⟨X.heap.size, 1, none⟩ = some (.int .i64 ky) := hRf.cell 1
          have f2 : Y.cell? ⟨X.heap.size, 2, none⟩ = some (.int .i64 ny) := hRf.cell 2
          have f3 : Y.cell? ⟨X.heap.size, 3, none⟩ = some (.string sy) := hRf.cell 3
          have f4 : Y.cell? ⟨X.heap.size, 4, none⟩ = some (.slice a1 m1 r1) := hRf.cell 4
          have f5 : Y.cell? ⟨X.heap.size, 5, none⟩ = some (.slice a2 m2 r2) := hRf.cell 5
          clear hbY hRf hcell HP HT HINF HONE
          generalize X.heap.size = fb at *
          have HST : Hid (putAll [] (patchFs fs ts ++ newF fs (ts.take (q + 1))) = putAll out (if (lk fs nm).isNone = true then [F.mk nm y] else [])) := Lib.hid (by rw [take_snoc HFU.out, newF_snoc, ← List.append_assoc, HO.out]; unfold putAll; rw [List.foldl_append]; rfl)
          have HSY : Hid (FR (inD D w.heap.size (d + 1)) Y fs (.slice af fs.length cf) EF) := Lib.hid (On.start HFS.out HPY.out.bx)
          have HFO := Lib.hid (fieldP_at (pOn (inD D w.heap.size (d + 1)) Y) 5 n s ai is.length ci fs af cf EF nm Y (Below.refl _ _) HSY.out.sl HSY.out.all)
          obtain ⟨t0, t1, t2, t3, t4⟩ := va5 (HPY.out.rf)
          have HSO : Hid (Srt out) := Lib.hid (by rw [HO.out]; exact srt_putAll List.Pairwise.nil)
          clear HO
          go_upto_region 17 with (first
            | (go_at_call 27; refine HFO.out.mono ?_; rintro e w2 ⟨co, rfl, hFO, hb2⟩; have hON : On (inD D w.heap.size (d + 1)) (fun Z => RepV Z ((lk fs nm).getD V0) co) w2 := fop_on hFO hb2; obtain ⟨k8, n8, s8, a8, m8, r8, a9, m9, r9, rfl⟩ := V5on hON; have HON := Lib.hid hON; have HP2 := Lib.hid (HPY.out.ext hb2); have HT2 := Lib.hid (HTY.out.below hb2); have HRV2 := Lib.hid (HRV.out.below hb2); have HRF2 := Lib.hid (HRF.out.ext hb2); have HWS2 : Hid (d + 1 ≤ w2.heap.size) := Lib.hid (Nat.le_trans HYS.out hb2.size); have hsome : (fofK 5 fs nm).isSome = (lk fs nm).isSome := rfl; clear hFO hON hb2 HFO t0 t1 t2 t3 t4 f0 f1 f2 f3 f4 f5)
            | (refine wpList_store_row rfl _ _ _ rfl w2.heap.size (vAr k8 n8 s8 (.slice a8 m8 r8) (.slice a9 m9 r9)) rfl rfl _ _ (RH.new _ _ _) (v_inf5 _ _ _ _ _) rfl (v_all5 _ _ _ _ _ _ _ _ _) ?_))
          refine wp_stored fun Y2 hbY2 hRo => ?_
          have HP4 := Lib.hid (HP2.out.ext hbY2)
          have HT4 := Lib.hid (HT2.out.below hbY2)
          have HOL := Lib.hid (HON.out.below hbY2)
          have HRV4 := Lib.hid (HRV2.out.below hbY2)
          have HRF4 := Lib.hid (HRF2.out.ext hbY2)
          have HWS4 : Hid (d + 1 ≤ Y2.heap.size) := Lib.hid (Nat.le_trans HWS2.out hbY2.size)
          have HRO := Lib.hid hRo
          generalize w2.heap.size = ob at *
          clear hRo hbY2 HP2 HT2 HON HRV2 HRF2 HWS2 HSY HRV HRF HPY HTY HYS
          cases hl : lk fs nm with
          | none =>
            have HO2 : Hid (putF nm y out = putAll [] (patchFs fs ts ++ newF fs (ts.take (q + 1)))) := Lib.hid (by rw [HST.out, hl]; rfl)
            have hb9 : (fofK 5 fs nm).isSome = false := by rw [hsome, hl]; rfl
            have HPU := Lib.hid (putP_at 5 0 eB none 0 0 out av cv E nm y _ Y2 (pOn (inD D w.heap.size (d + 1)) Y2) HT4.out.sl HT4.out.all HRV4.out.now (on_field HRV4.out HNM.out) HSO.out (by omega) HNM.out)
            obtain ⟨d0, d1, d2, d3, d4⟩ := HP4.out.c
            have f0 : Y2.cell? ⟨fb, 0, none⟩ = some (.string nm) := HRF4.out.cell 0
            have f1 : Y2.cell? ⟨fb, 1, none⟩ = some (.int .i64 ky) := HRF4.out.cell 1
            have f2 : Y2.cell? ⟨fb, 2, none⟩ = some (.int .i64 ny) := HRF4.out.cell 2
            have f3 : Y2.cell? ⟨fb, 3, none⟩ = some (.string sy) := HRF4.out.cell 3
            have f4 : Y2.cell? ⟨fb, 4, none⟩ = some (.slice a1 m1 r1) := HRF4.out.cell 4
            have f5 : Y2.cell? ⟨fb, 5, none⟩ = some (.slice a2 m2 r2) := HRF4.out.cell 5
            clear hl hsome HST HSO
            go_wp2_with (first
              | (go_at_call 28; refine HPU.out.mono ?_; rintro e w1 ⟨a1', c1', E1, rfl, hO1, hb1⟩; have HP1 := Lib.hid (HP4.out.ext hb1); have HT1 := Lib.hid (FR.ofQ hO1 hb1 HWS4.out); clear hO1 hb1 HPU d0 d1 d2 d3 d4 f0 f1 f2 f3 f4 f5)
              | (refine wpList_store_row rfl _ _ _ rfl d (vAr 5 0 eB (.slice none 0 0) (.slice a1' (putF nm y out).length c1')) rfl rfl _ _ HP1.out.m.rv (v_inf5 _ _ _ _ _) rfl (v_all5 _ _ _ _ _ _ _ _ _) ?_))
            go_roundw
            case rel => exact ⟨q + 1, _, a1', c1', E1, by omega, by go_num, HO2, Lib.hid (HP1.out.row HD2.out _), Lib.hid (On.setRow HT1.out (by have := HD2.out; omega) (by omega))⟩
            case measure => simp [intOf]; omega
          | some x' =>
            have HO2 : Hid (out = putAll [] (patchFs fs ts ++ newF fs (ts.take (q + 1)))) := Lib.hid (by rw [HST.out, hl]; rfl)
            have hb9 : (fofK 5 fs nm).isSome = true := by rw [hsome, hl]; rfl
            clear hl hsome HST HSO
            go_wp2_with fail
            go_roundw
            case rel => exact ⟨q + 1, out, av, cv, E, by omega, by go_num, HO2, HP4, HT4⟩
            case measure => simp [intOf]; omega
        · obtain rfl : q = ts.length := by omega
          have HOF : Hid (out = putAll [] (ents fs ts)) := Lib.hid (by rw [HO.out, List.take_length]; rfl)
          obtain ⟨AR, hAR, hAS⟩ := HP.out.m.rr
          have HAR := Lib.hid hAR
          obtain ⟨d0, d1, d2, d3, d4⟩ := HP.out.c
          have HFIN : Hid (MdPost D (obj (putAll [] (ents fs ts))) w (.returned (.agg (vAr 5 0 eB (.slice none 0 0) (.slice av out.length cv)))) (X.setRow (w.heap.size + 2) (vAr 5 0 eB (.slice none 0 0) (.slice av out.length cv)))) := Lib.hid ⟨_, rfl, by
            rw [← HOF.out]
            exact On.fin (On.setRow (on_obj (fun Z => Sl.nil Z) HT.out) (by omega) (by have := HD2.out; omega)) (by have := HD2.out; omega), below_setRow HP.out.bx (by omega) _⟩
          clear hAR HO hlt hq HP HT
          go_wp2_with (refine wpList_store_row rfl _ _ _ rfl (w.heap.size + 2) (vAr 5 0 eB (.slice none 0 0) (.slice av out.length cv)) rfl rfl _ _ HAR.out (v_inf5 _ _ _ _ _) hAS (v_all5 _ _ _ _ _ _ _ _ _) ?_)
          (try simp only [Exit.inBlock, Exit.then])
          refine bodyPost_ret (v := .agg (vAr 5 0 eB (.slice none 0 0) (.slice av out.length cv))) (results_cell_row rfl _ _ _ _ _ _ _ rfl (HAR.out.row _) Try.underlying25 rfl (v_inf5 _ _ _ _ _)) rfl HFIN.out
/- patched at every value -/
mutual
theorem pdV : ∀ x : V, PdAt x
  | .mk k n s is fs => fun D y cs cy w hx hy hcx hcy => by
    by_cases h : k = 5 ∧ kind y = 5
    · obtain ⟨rfl, h5⟩ := h
      exact pd_obj n s is fs (pdF fs) D y cs cy w h5 hx hy hcx hcy
    · exact pd_not _ y D cs cy w h hx hy
theorem pdF : ∀ l : List F, ∀ f ∈ l, PdAt (vlF f)
  | [] => fun _ h => by cases h
  | .mk nm y :: l => fun f h => (List.mem_cons.1 h).elim (fun e => by rw [e]; exact pdV y) (fun h => pdF l f h)
end
end Fd
end Go.Proofs.Ytkjgifhklajifaa
