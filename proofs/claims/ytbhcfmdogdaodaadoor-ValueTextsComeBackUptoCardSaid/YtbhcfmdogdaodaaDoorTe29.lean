/- The law that Read reads what Show writes: the walk. Printed by gen_lawtcb.py. -/
import Derived.Test.YtbhcfmdogdaodaaDoorTe22
import Derived.Test.YtbhcfmdogdaodaaDoorTe26
import Derived.Test.YtbhcfmdogdaodaaDoorTe27
import Derived.Test.YtbhcfmdogdaodaaDoorTe28
namespace Go.Proofs.YtbhcfmdogdaodaaDoor
open Go.RowKit
namespace Fd
open _root_.Go.Proofs.YtbhcfmdogdaodaaDoor.Nt (RH RH.cell RH.box RH.lt RH.new RH.ext RH.fre RH.set RH.other)
open _root_.Go.Proofs.YtbhcfmdogdaodaaDoor.Rw (wp_stored)
set_option maxRecDepth 100000 in
set_option maxHeartbeats 16000000 in
theorem lawTcb_at (x : V) (cs : List Value) (text : ByteArray) (w : World) (hx : RepV w x cs) (hp : pN x ≤ 1048576) (hT : Tx.Tb w) : Calls Tryd.prog 4 #[.agg cs.toArray, .string text] w fun e w' => e = .returned (.bool true) ∧ Below w.heap.size w w' := by
  obtain ⟨k1, n1, s1, b1, b2, b3, b4, b5, b6, rfl⟩ := V5 hx
  have HX := Lib.hid hx
  have HT := Lib.hid hT
  obtain ⟨u, hu⟩ : ∃ u, Tx.stB (shwF x).1 = u := ⟨_, rfl⟩
  obtain ⟨f, hf⟩ : ∃ f, (shwF x).2 = f := ⟨_, rfl⟩
  have HRB : Hid (f = 0 → readF u.data.toList = (x, 0, 0)) := Lib.hid (fun h => by rw [← hu, Tx.stB_list]; exact shw_back (hf.trans h))
  obtain ⟨⟨y, yp, yf⟩, hr⟩ : ∃ r, readF text.data.toList = r := ⟨_, rfl⟩
  have HRT := Lib.hid hr
  have HPY : Hid (pN y ≤ 20001) := Lib.hid (by have := readF_pN text.data.toList; rw [hr] at this; exact this)
  obtain ⟨yu, hyu⟩ : ∃ u, Tx.stB (shwF y).1 = u := ⟨_, rfl⟩
  obtain ⟨yg, hyg⟩ : ∃ f, (shwF y).2 = f := ⟨_, rfl⟩
  have HUY := Lib.hid hyu
  have HGY := Lib.hid hyg
  have HBY : Hid (yg = 0 → readF yu.data.toList = (y, 0, 0)) := Lib.hid (fun h => by rw [← hyu, Tx.stB_list]; exact shw_back (hyg.trans h))
  have HSM : Hid (decide (cmpV y y = 0) = true) := Lib.hid (by rw [cmpV_self]; rfl)
  have HSX : Hid (decide (cmpV x x = 0) = true) := Lib.hid (by rw [cmpV_self]; rfl)
  have HS1 : Hid (∀ W9, Below w.heap.size w W9 → Calls Tryd.prog 8 #[.agg #[.int .i64 k1, .int .i64 n1, .string s1, .slice b1 b2 b3, .slice b4 b5 b6]] W9 fun e w' => e = .returned (.tuple #[.string u, .int .i64 f]) ∧ Below W9.heap.size W9 w') := Lib.hid (fun W9 hW => by rw [← hu, ← hf]; exact show_at x _ W9 (RepV.ext hW hx) (hT.ext hW) hp)
  clear hx hp hT hu hf hr hyu hyg
  go_enter Tryd.func4, Tryd.ntmps4
  go_upto_region 1 with (fail)
  refine Tx.wp_vr1 fun W hbW hR1 => ?_
  obtain ⟨a0, a1, a2, a3, a4⟩ := va5 hR1
  have HR1 := Lib.hid hR1
  have HBW := Lib.hid hbW
  clear hR1 hbW
  go_wp2_with fail
  refine (HS1.out W HBW.out).mono ?_
  rintro e w1 ⟨rfl, hb1⟩
  have HB1 := Lib.hid (ext_trans HBW.out hb1)
  replace HR1 := Lib.hid (HR1.out.ext hb1)
  clear a0 a1 a2 a3 a4 hb1
  by_cases h0 : f = 0
  · have HRX := Lib.hid (HRB.out h0)
    subst h0
    have hrd := read_at u w1
    unfold ReadPost at hrd
    rw [HRX.out] at hrd
    simp only at hrd
    go_wp2_with fail
    refine hrd.mono ?_
    rintro e w6 ⟨c6, rfl, hon6, hb6, hck6⟩
    obtain ⟨k6, n6, s6, a6, m6, q6, aa6, mm6, qq6, rfl⟩ := V5 hon6.now
    have HV6 := Lib.hid hon6.now
    have HCK6 := Lib.hid hck6
    have HB6 := Lib.hid (ext_trans HB1.out hb6)
    replace HR1 := Lib.hid (HR1.out.ext hb6)
    clear hrd hon6 hb6 hck6
    go_upto_region 4 with (refine wpList_store_row rfl _ _ _ rfl w6.heap.size (vAr k6 n6 s6 (.slice a6 m6 q6) (.slice aa6 mm6 qq6)) rfl rfl _ _ (RH.new _ _ _) (v_inf5 _ _ _ _ _) rfl (v_all5 _ _ _ _ _ _ _ _ _) ?_)
    refine wp_stored fun X6 hbs hRs => ?_
    replace HV6 := Lib.hid (RepV.ext hbs HV6.out)
    replace HB6 := Lib.hid (ext_trans HB6.out hbs)
    replace HR1 := Lib.hid (HR1.out.ext hbs)
    have HN6 := Lib.hid hRs
    clear hbs hRs
    generalize w6.heap.size = vb6 at *
    obtain ⟨a0, a1, a2, a3, a4⟩ := va5 HR1.out
    obtain ⟨d0, d1, d2, d3, d4⟩ := va5 HN6.out
    have hsm := same_at x x _ _ X6 HV6.out (RepV.ext HB6.out HX.out)
    rw [HSX.out] at hsm
    go_wp2_with fail
    refine hsm.mono ?_
    rintro e w7 ⟨rfl, hb7⟩
    have HB7 := Lib.hid (ext_trans HB6.out hb7)
    clear hsm hb7 a0 a1 a2 a3 a4 d0 d1 d2 d3 d4
    have hrd := read_at text w7
    unfold ReadPost at hrd
    rw [HRT.out] at hrd
    simp only at hrd
    go_wp2_with fail
    refine hrd.mono ?_
    rintro e w2 ⟨c2, rfl, hon2, hb2, hck2⟩
    obtain ⟨k2, n2, s2, a2, m2, q2, aa2, mm2, qq2, rfl⟩ := V5 hon2.now
    have HV2 := Lib.hid hon2.now
    have HCK2 := Lib.hid hck2
    have HB2 := Lib.hid (ext_trans HB7.out hb2)
    clear hrd hon2 hb2 hck2
    go_upto_region 7 with (refine wpList_store_row rfl _ _ _ rfl w2.heap.size (vAr k2 n2 s2 (.slice a2 m2 q2) (.slice aa2 mm2 qq2)) rfl rfl _ _ (RH.new _ _ _) (v_inf5 _ _ _ _ _) rfl (v_all5 _ _ _ _ _ _ _ _ _) ?_)
    refine wp_stored fun X2 hbs hRs => ?_
    replace HV2 := Lib.hid (RepV.ext hbs HV2.out)
    replace HB2 := Lib.hid (ext_trans HB2.out hbs)
    have HN2 := Lib.hid hRs
    clear hbs hRs
    generalize w2.heap.size = vb2 at *
    by_cases hyf : yf = 0
    · have HCY := Lib.hid (HCK2.out hyf)
      have hyb : (yf != 0) = false := by simpa using hyf
      have HSY := Lib.hid (shw_ok HCY.out)
      have hs2 := show_at y _ X2 HV2.out (HT.out.ext HB2.out) (Nat.le_trans HPY.out (by decide))
      rw [HUY.out, HGY.out] at hs2
      obtain ⟨a0, a1, a2, a3, a4⟩ := va5 HN2.out
      clear hyf
      go_wp2_with fail
      refine hs2.mono ?_
      clear hs2
      rintro e w3 ⟨rfl, hb3⟩
      have HB3 := Lib.hid (ext_trans HB2.out hb3)
      replace HV2 := Lib.hid (RepV.ext hb3 HV2.out)
      replace HN2 := Lib.hid (HN2.out.ext hb3)
      clear a0 a1 a2 a3 a4 hb3
      by_cases hg : yg = 0
      · have HRB := Lib.hid (HBY.out hg)
        subst hg
        have hrd := read_at yu w3
        unfold ReadPost at hrd
        rw [HRB.out] at hrd
        simp only at hrd
        go_wp2_with fail
        refine hrd.mono ?_
        rintro e w4 ⟨c4, rfl, hon4, hb4, hck4⟩
        obtain ⟨k4, n4, s4, a4, m4, q4, aa4, mm4, qq4, rfl⟩ := V5 hon4.now
        have HV4 := Lib.hid hon4.now
        have HCK4 := Lib.hid hck4
        have HB4 := Lib.hid (ext_trans HB3.out hb4)
        replace HV2 := Lib.hid (RepV.ext hb4 HV2.out)
        replace HN2 := Lib.hid (HN2.out.ext hb4)
        clear hrd hon4 hb4 hck4
        go_upto_region 13 with (refine wpList_store_row rfl _ _ _ rfl w4.heap.size (vAr k4 n4 s4 (.slice a4 m4 q4) (.slice aa4 mm4 qq4)) rfl rfl _ _ (RH.new _ _ _) (v_inf5 _ _ _ _ _) rfl (v_all5 _ _ _ _ _ _ _ _ _) ?_)
        refine wp_stored fun X4 hbs hRs => ?_
        replace HV4 := Lib.hid (RepV.ext hbs HV4.out)
        replace HB4 := Lib.hid (ext_trans HB4.out hbs)
        replace HV2 := Lib.hid (RepV.ext hbs HV2.out)
        replace HN2 := Lib.hid (HN2.out.ext hbs)
        have HN4 := Lib.hid hRs
        clear hbs hRs
        generalize w4.heap.size = vb4 at *
        obtain ⟨a0, a1, a2, a3, a4⟩ := va5 HN2.out
        obtain ⟨d0, d1, d2, d3, d4⟩ := va5 HN4.out
        have hsm := same_at y y _ _ X4 HV4.out HV2.out
        rw [HSM.out] at hsm
        go_wp2_with fail
        refine hsm.mono ?_
        rintro e w5 ⟨rfl, hb5⟩
        have HB5 := Lib.hid (ext_trans HB4.out hb5)
        clear hsm hb5 a0 a1 a2 a3 a4 d0 d1 d2 d3 d4
        go_wp2
        go_ret
        exact ⟨by simp, HB5.out⟩
      · have hg2 : yg = 2 := by
          have h9 := HSY.out
          rw [HGY.out] at h9
          exact h9.resolve_left hg
        subst hg2
        go_wp2
        go_ret
        exact ⟨by simp, HB3.out⟩
    · have hyb : (yf != 0) = true := by simpa using hyf
      go_wp2
      go_ret
      exact ⟨by simp, HB2.out⟩
  · have hfb : (f == 0) = false := by simpa using h0
    clear h0
    have hrd := read_at text w1
    unfold ReadPost at hrd
    rw [HRT.out] at hrd
    simp only at hrd
    go_wp2_with fail
    refine hrd.mono ?_
    rintro e w2 ⟨c2, rfl, hon2, hb2, hck2⟩
    obtain ⟨k2, n2, s2, a2, m2, q2, aa2, mm2, qq2, rfl⟩ := V5 hon2.now
    have HV2 := Lib.hid hon2.now
    have HCK2 := Lib.hid hck2
    have HB2 := Lib.hid (ext_trans HB1.out hb2)
    clear hrd hon2 hb2 hck2
    go_upto_region 7 with (refine wpList_store_row rfl _ _ _ rfl w2.heap.size (vAr k2 n2 s2 (.slice a2 m2 q2) (.slice aa2 mm2 qq2)) rfl rfl _ _ (RH.new _ _ _) (v_inf5 _ _ _ _ _) rfl (v_all5 _ _ _ _ _ _ _ _ _) ?_)
    refine wp_stored fun X2 hbs hRs => ?_
    replace HV2 := Lib.hid (RepV.ext hbs HV2.out)
    replace HB2 := Lib.hid (ext_trans HB2.out hbs)
    have HN2 := Lib.hid hRs
    clear hbs hRs
    generalize w2.heap.size = vb2 at *
    by_cases hyf : yf = 0
    · have HCY := Lib.hid (HCK2.out hyf)
      have hyb : (yf != 0) = false := by simpa using hyf
      have HSY := Lib.hid (shw_ok HCY.out)
      have hs2 := show_at y _ X2 HV2.out (HT.out.ext HB2.out) (Nat.le_trans HPY.out (by decide))
      rw [HUY.out, HGY.out] at hs2
      obtain ⟨a0, a1, a2, a3, a4⟩ := va5 HN2.out
      clear hyf
      go_wp2_with fail
      refine hs2.mono ?_
      clear hs2
      rintro e w3 ⟨rfl, hb3⟩
      have HB3 := Lib.hid (ext_trans HB2.out hb3)
      replace HV2 := Lib.hid (RepV.ext hb3 HV2.out)
      replace HN2 := Lib.hid (HN2.out.ext hb3)
      clear a0 a1 a2 a3 a4 hb3
      by_cases hg : yg = 0
      · have HRB := Lib.hid (HBY.out hg)
        subst hg
        have hrd := read_at yu w3
        unfold ReadPost at hrd
        rw [HRB.out] at hrd
        simp only at hrd
        go_wp2_with fail
        refine hrd.mono ?_
        rintro e w4 ⟨c4, rfl, hon4, hb4, hck4⟩
        obtain ⟨k4, n4, s4, a4, m4, q4, aa4, mm4, qq4, rfl⟩ := V5 hon4.now
        have HV4 := Lib.hid hon4.now
        have HCK4 := Lib.hid hck4
        have HB4 := Lib.hid (ext_trans HB3.out hb4)
        replace HV2 := Lib.hid (RepV.ext hb4 HV2.out)
        replace HN2 := Lib.hid (HN2.out.ext hb4)
        clear hrd hon4 hb4 hck4
        go_upto_region 13 with (refine wpList_store_row rfl _ _ _ rfl w4.heap.size (vAr k4 n4 s4 (.slice a4 m4 q4) (.slice aa4 mm4 qq4)) rfl rfl _ _ (RH.new _ _ _) (v_inf5 _ _ _ _ _) rfl (v_all5 _ _ _ _ _ _ _ _ _) ?_)
        refine wp_stored fun X4 hbs hRs => ?_
        replace HV4 := Lib.hid (RepV.ext hbs HV4.out)
        replace HB4 := Lib.hid (ext_trans HB4.out hbs)
        replace HV2 := Lib.hid (RepV.ext hbs HV2.out)
        replace HN2 := Lib.hid (HN2.out.ext hbs)
        have HN4 := Lib.hid hRs
        clear hbs hRs
        generalize w4.heap.size = vb4 at *
        obtain ⟨a0, a1, a2, a3, a4⟩ := va5 HN2.out
        obtain ⟨d0, d1, d2, d3, d4⟩ := va5 HN4.out
        have hsm := same_at y y _ _ X4 HV4.out HV2.out
        rw [HSM.out] at hsm
        go_wp2_with fail
        refine hsm.mono ?_
        rintro e w5 ⟨rfl, hb5⟩
        have HB5 := Lib.hid (ext_trans HB4.out hb5)
        clear hsm hb5 a0 a1 a2 a3 a4 d0 d1 d2 d3 d4
        go_wp2
        go_ret
        exact ⟨by simp, HB5.out⟩
      · have hg2 : yg = 2 := by
          have h9 := HSY.out
          rw [HGY.out] at h9
          exact h9.resolve_left hg
        subst hg2
        go_wp2
        go_ret
        exact ⟨by simp, HB3.out⟩
    · have hyb : (yf != 0) = true := by simpa using hyf
      go_wp2
      go_ret
      exact ⟨by simp, HB2.out⟩
end Fd
end Go.Proofs.YtbhcfmdogdaodaaDoor
