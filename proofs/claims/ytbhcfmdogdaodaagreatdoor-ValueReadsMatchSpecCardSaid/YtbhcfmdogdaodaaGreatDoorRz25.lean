/- list of the reference's reader. Printed by gen_rjj.py. Within, printable and inner of the reference. Printed by gen_rval.py. -/
import Derived.Test.YtbhcfmdogdaodaaGreatDoorRz24
import Derived.Test.YtbhcfmdogdaodaaGreatDoorRz08
import Derived.Test.YtbhcfmdogdaodaaGreatDoorRz05
import Derived.Test.YtbhcfmdogdaodaaGreatDoorRz01
import Derived.Test.YtbhcfmdogdaodaaGreatDoorRz04
import Derived.Maps.AppendAt
namespace Go.Proofs.YtbhcfmdogdaodaaGreatDoor
open Go.RowKit
namespace Fd
open _root_.Go.Proofs.YtbhcfmdogdaodaaGreatDoor.Nm
open _root_.Go.Proofs.YtbhcfmdogdaodaaGreatDoor.Nt (RH RH.cell RH.box RH.lt RH.new RH.ext RH.fre RH.set RH.other)
open _root_.Go.Proofs.YtbhcfmdogdaodaaGreatDoor.Nt (RH.row RH.row_other RH.set_other)
open _root_.Go.Proofs.YtbhcfmdogdaodaaGreatDoor.Rw (All2 All2.get All2.length All2.mono All2.append Fresh fresh_own Kept wp_stored)
open _root_.Go.Proofs.YtbhcfmdogdaodaaGreatDoor.Tx (stB)
set_option maxRecDepth 100000 in
set_option maxHeartbeats 8000000 in
theorem jlist_at (rb : Nat) (s : ByteArray) (a f : Nat) (w : World) (h : RJ w rb s a (-1) 0) (hs : s.size ≤ 1000000) (hp91 : pk s a = 91) (ha : a < s.size) (hf : 2 * (s.size - (a + 1)) + 2 ≤ f) (HI : ∀ g, g < f → ValJAt s rb g) : Calls Tryz.prog 27 #[.pointer (some ⟨rb, 0, none⟩)] w (ValJ s rb w (lstP f (dr s (a + 1)))) := by
  have hs1 : (s.size : Int) ≤ 1000000 := by omega
  have HR := Lib.hid h
  have HVA := Lib.hid HI
  have HP91 := Lib.hid hp91
  have HRB : Hid (rb < w.heap.size) := Lib.hid h.lt
  obtain ⟨x, hx⟩ : ∃ x, lstP f (dr s (a + 1)) = x := ⟨_, rfl⟩
  have HX := Lib.hid hx
  have HA := Lib.hid ha
  have HF := Lib.hid hf
  rw [hx]
  clear h hx ha HI hf hp91
  go_enter Tryz.func27, Tryz.ntmps27
  go_upto_region 1 with (fail)
  refine Tx.wp_vr1 fun W hbW hR1 => ?_
  have HRW := Lib.hid (HR.out.ext hbW)
  have HGW := Lib.hid (gr_below hbW (some rb))
  have HQW := Lib.hid hR1
  clear hbW hR1 HR
  go_upto_region 2 with (refine wpList_store_row rfl _ _ _ rfl W.heap.size (vAr 4 0 eB (.slice none 0 0) (.slice none 0 0)) rfl rfl _ _ (RH.new _ _ _) (v_inf5 _ _ _ _ _) rfl (v_all5 _ _ _ _ _ _ _ _ _) ?_)
  refine wp_stored fun Y hbY hRv => ?_
  obtain ⟨vb, hvb⟩ : ∃ vb, W.heap.size = vb := ⟨_, rfl⟩
  have HR0 := Lib.hid (HRW.out.ext hbY)
  have HJ0 : Hid (LV rb w vb Y [] (.slice none 0 0) []) := Lib.hid ⟨hvb ▸ hRv, HQW.out.ext hbY, hvb ▸ HQW.out.lt, HRB.out, Nat.lt_succ_self _, ER.nil Y _, HGW.out.trans (gr_below hbY (some rb))⟩
  rw [hvb]
  clear hbY hRv HRW HGW HQW hvb
  go_wp2_with fail
  refine (must_ok rb s a 91 Y HR0.out hs HA.out HP91.out).mono ?_
  rintro e Y1 ⟨rfl, hR, hg⟩
  have HR1 := Lib.hid hR
  have HJ1 := Lib.hid (HJ0.out.kept hg)
  clear hR hg HR0 HJ0
  go_wp2_with fail
  refine (jblanks_at rb s (a + 1) Y1 HR1.out hs HA.out).mono ?_
  rintro e Y2 ⟨rfl, b, hb, hbd, hR, hg⟩
  have HR2 := Lib.hid hR
  have HJ2 := Lib.hid (HJ1.out.kept hg)
  have HB := Lib.hid hb
  have HBD := Lib.hid hbd
  have HBA : Hid (s.size - b ≤ s.size - (a + 1)) := Lib.hid (by
    have := skipW_len (dr s (a + 1))
    rw [← hbd, dr_len hb, dr_len HA.out] at this
    exact this)
  have hbi : (b : Int) ≤ 1000000 := by omega
  clear hR hg HR1 HJ1 hb hbd
  go_wp2_with fail
  refine (jnext_at rb s b (-1) 0 Y2 HR2.out hs).mono ?_
  rw [nx_ok]
  rintro e Y3 ⟨rfl, hR, hg, -⟩
  have HR3 := Lib.hid hR
  have HJ3 := Lib.hid (HJ2.out.kept hg)
  clear hR hg HR2 HJ2
  by_cases hp : pk s b = 93
  · have hpb : (pk s b == 93) = true := by simpa using hp
    have HE := Lib.hid (lstP_end (f := f) HBD.out hp)
    have HXO : Hid (x = .ok (lsV []) (dr s (b + 1))) := Lib.hid (HX.out.symm.trans HE.out.2)
    clear hp
    obtain ⟨c0, c1, c2, c3⟩ := HR3.out.c
    have z1 := HR3.out.z 1
    have hg := gr_set Y3 rb 1 (.int .i64 ((b : Int) + 1))
    have HR4 : Hid (RJ (Y3.setCell ⟨rb, 1, none⟩ (.int .i64 ((b : Int) + 1))) rb s (b + 1) (-1) 0) := Lib.hid (HR3.out.next (b + 1))
    have HJ4 := Lib.hid (HJ3.out.kept hg)
    clear hg
    go_upto_region 6 with (fail)
    clear c0 c1 c2 c3 z1 HR3 HJ3
    generalize Y3.setCell ⟨rb, 1, none⟩ (.int .i64 ((b : Int) + 1)) = Z at *
    have HAX : Hid (AftJ s rb w Z x) := Lib.hid (by rw [HXO.out]; exact ⟨b + 1, HE.out.1, rfl, HR4.out, HJ4.out.gr⟩)
    have HVX : Hid (∀ u r, x = .ok u r → lsV [] = u) := Lib.hid (fun u r e => by rw [HXO.out] at e; cases e; rfl)
    have HJZ := HJ4
    obtain ⟨d0, d1, d2, d3, d4⟩ := va5 HJZ.out.rv
    have HF : Hid (ValJ s rb w x (.returned (.agg (vAr 4 0 eB (.slice none 0 0) (.slice none 0 0)))) (Z.setRow w.heap.size (vAr 4 0 eB (.slice none 0 0) (.slice none 0 0)))) := Lib.hid ⟨lsV [], _, rfl, ((lj_list HJZ.out).keep (by rw [setRow_size]; exact Nat.le_refl _) (fun q _ hq => setRow_other _ _ _ _ (by omega))).mono (fun q _ hq => Nat.le_of_lt hq), HVX.out, HAX.out.row (Nat.le_refl _) (by have := HRB.out; omega) _⟩
    go_wp2_with (refine wpList_store_row rfl _ _ _ rfl w.heap.size (vAr 4 0 eB (.slice none 0 0) (.slice none 0 0)) rfl rfl _ _ HJZ.out.rr (v_inf5 _ _ _ _ _) rfl (v_all5 _ _ _ _ _ _ _ _ _) ?_)
    (try simp only [Exit.inBlock, Exit.then])
    refine bodyPost_ret (v := .agg (vAr 4 0 eB (.slice none 0 0) (.slice none 0 0))) (results_cell_row rfl _ _ _ _ _ _ _ rfl (HJZ.out.rr.row _) Tryz.underlying25 rfl (v_inf5 _ _ _ _ _)) rfl HF.out
  · have hpb : (pk s b == 93) = false := beq_eq_false_iff_ne.2 hp
    obtain ⟨y0, hy0⟩ : ∃ y0, elsP f [] (dr s b) = y0 := ⟨_, rfl⟩
    have HXE : Hid (x = y0.bind fun is q => .ok (lsV is) q) := Lib.hid (by rw [← hy0]; exact HX.out.symm.trans (lstP_els (f := f) HBD.out hp))
    have HY0 : Hid (elsP f [] (skipW (dr s b)) = y0) := Lib.hid (by rw [HBD.out, skip_skip, ← HBD.out]; exact hy0)
    have HFB : Hid (2 * (s.size - b) + 2 ≤ f) := Lib.hid (by have := HF.out; have := HBA.out; omega)
    have HFF : Hid (f ≤ f) := Lib.hid (Nat.le_refl _)
    have HAL : Hid (([] : List V).length ≤ b) := Lib.hid (Nat.zero_le _)
    have hqb : b ≤ s.size := HB.out
    clear hp hy0 HX HBD HBA HF
    go_wp2_with fail
    go_loopw [] (fun wr => ∃ (acc : List V) (b g : Nat) (v : Value) (E : List (List Value)), b ≤ s.size ∧ Hid (acc.length ≤ b) ∧ Hid (2 * (s.size - b) + 2 ≤ g) ∧ Hid (g ≤ f) ∧ Hid (elsP g acc (skipW (dr s b)) = y0) ∧ Hid (LV rb w vb wr acc v E) ∧ Hid (RJ wr rb s b (-1) 0)) (fun wr => s.size - (intOf ((wr.cell? ⟨rb, 1, none⟩).getD undef)).toNat)
    case atStart => exact ⟨[], b, f, _, [], hqb, HAL, HFB, HFF, HY0, HJ3, HR3⟩
    case round =>
      clear HAL HFB HFF HY0 HJ3 HR3 HB hbi hqb hpb
      obtain ⟨acc, b0, g, v, E, hbs0, HAL0, HGB0, HGF, HY1, HJ0, HR0⟩ := hrel
      cases g with
      | zero => have := HGB0.out; omega
      | succ g =>
      generalize hXX : wr = X0 at *
      clear hXX
      have HMX := Lib.hid (jmeas HR0.out)
      obtain ⟨c0, c1, c2, c3⟩ := HR0.out.c
      go_wp2_with fail
      clear c0 c1 c2 c3
      refine (jblanks_at rb s b0 X0 HR0.out hs hbs0).mono ?_
      rintro e X ⟨rfl, b, hbs, hbd, hR, hg⟩
      have HR := Lib.hid hR
      have HJ := Lib.hid (HJ0.out.kept hg)
      have HBS := Lib.hid hbs
      have HBB : Hid (b0 ≤ b) := Lib.hid (by
        have h9 := skipW_len (dr s b0)
        rw [← hbd, dr_len hbs, dr_len hbs0] at h9
        omega)
      have HAL : Hid (acc.length ≤ b) := Lib.hid (Nat.le_trans HAL0.out HBB.out)
      have HGB : Hid (2 * (s.size - b) + 2 ≤ g + 1) := Lib.hid (by have := HGB0.out; have := HBB.out; omega)
      have HY : Hid (elsP (g + 1) acc (dr s b) = y0) := Lib.hid (by rw [hbd]; exact HY1.out)
      have hbi : (b : Int) ≤ 1000000 := by omega
      clear hR hg hbs hbd HAL0 HGB0 HY1 HJ0 HR0
      obtain ⟨y, hy⟩ : ∃ y, valP g (dr s b) = y := ⟨_, rfl⟩
      have HV := Lib.hid hy
      have HVC : Hid (∀ W', Below X.heap.size X W' → Calls Tryz.prog 12 #[.pointer (some ⟨rb, 0, none⟩)] W' (ValJ s rb W' y)) := Lib.hid (fun W' hW => by
        have := HVA.out g (by have := HGF.out; omega) b W' (HR.out.ext hW) HBS.out (by have := HGB.out; omega)
        rw [hy] at this
        exact this)
      clear hy
      obtain ⟨c0, c1, c2, c3⟩ := HR.out.c
      go_upto_region 9 with (fail)
      have hv0 : X.cell? ⟨vb, 3, none⟩ = some v := HJ.out.rv.cell 3
      refine GrowB.wp_region_growb (rB := some rb) 5 3 [TP.eq (.pointer (some ⟨vb, 3, none⟩)), TP.eq v, TP.eq (.pointer (some ⟨rb, 0, none⟩)), TPvJ (fun q => vb + 1 ≤ q ∧ v.ownBlock ≠ some q) s rb w y, TPs (fun q => vb + 1 ≤ q ∧ v.ownBlock ≠ some q) (vb + 1) y] [[], [0], [], [2], [3]] (by kernel_rfl) (by kernel_rfl) ?hst ⟨?o0e, ?o1e, ?o2e, ?o3e, ?o4e, trivial⟩ ?tle
      case hst =>
        intro j hj hjc W1 W2 u hg hu
        match j, hj, hjc with
        | 0, _, _ => exact hu
        | 1, _, _ => exact hu
        | 2, _, _ => exact hu
        | 4, _, _ =>
          obtain ⟨v1, c1, B1, h1, h2, h3, h4, h5⟩ := hu
          have hlt := HJ.out.lt
          have hrb := HJ.out.lrb
          exact ⟨v1, c1, B1, h1, h2, Rw.rh_grown h3 hg (fun e => by have := Option.some.inj e; omega), On.grownBy h4 hg (fun q _ hq e => by have := Option.some.inj e; omega), h5⟩
      case o0e =>
        intro w' hb
        show wpList _ _ _ _ _ _
        go_wp2
        exact ⟨rfl, Below.refl _ _, rfl⟩
      case o1e =>
        intro w' hb v1 hv1
        have hv0' : w'.cell? ⟨vb, 3, none⟩ = some v := (HJ.out.kept (show X.grownBy w' (some rb) from hb)).rv.cell 3
        obtain rfl : v1 = _ := hv1
        show wpList _ _ _ _ _ _
        simp only [Grow.dstOf, List.getElem?_toArray, List.getElem?_cons_zero, Option.bind_some, Act.put, List.setIfInBounds_toArray, List.set_cons_succ, List.set_cons_zero]
        go_wp2
        exact ⟨rfl, Below.refl _ _, rfl⟩
      case o2e =>
        intro w' hb
        show wpList _ _ _ _ _ _
        go_wp2
        exact ⟨rfl, Below.refl _ _, rfl⟩
      case o3e =>
        intro w' hb v2 hv2
        have hbw : Below X.heap.size X w' := hb
        obtain rfl : v2 = _ := hv2
        show wpList _ _ _ _ _ _
        simp only [Grow.dstOf, List.getElem?_toArray, List.getElem?_cons_succ, List.getElem?_cons_zero, Option.bind_some, Act.put, List.setIfInBounds_toArray, List.set_cons_succ, List.set_cons_zero]
        go_wp2_with fail
        refine (HVC.out w' hbw).mono ?_
        rintro e wz ⟨v9, c9, rfl, hon, hvu, hA⟩
        have hJ9 := HJ.out.below hbw
        have hPV : (TPvJ (fun q => vb + 1 ≤ q ∧ v.ownBlock ≠ some q) s rb w y).p wz (.agg c9.toArray) := ⟨v9, c9, rfl, hon.mono (fun q _ hq => ⟨by have := hJ9.rv.lt; omega, fun e => by have := (hJ9.er.ge q e).2; omega⟩), hvu, hA.tr hJ9.gr⟩
        have hG9 : w'.grownBy wz (some rb) := hA.gr
        clear hon hvu hA hJ9
        go_wp2
        exact ⟨hPV, hG9, rfl⟩
      case o4e =>
        intro w' hb v3 hv3
        have hbg : X.grownBy w' (some rb) := hb
        obtain ⟨v9, c9, rfl, hon, hvu, hA⟩ := hv3
        obtain ⟨k6, n6, s6, a6, m6, r6, a7, m7, r7, rfl⟩ := V5 hon.now
        have hJ9 := HJ.out.kept hbg
        have hPS : (TPs (fun q => vb + 1 ≤ q ∧ v.ownBlock ≠ some q) (vb + 1) y).p (w'.alloc (.cells #[.int .i64 k6, .int .i64 n6, .string s6, .slice a6 m6 r6, .slice a7 m7 r7] 25)) (.slice (some ⟨w'.heap.size, 0, none⟩) 1 1) := ⟨v9, _, w'.heap.size, rfl, by have := hJ9.rv.lt; omega, RH.new _ _ _, hon.below (ext_alloc _ _), hvu⟩
        have hB9 := ext_alloc w' (.cells #[.int .i64 k6, .int .i64 n6, .string s6, .slice a6 m6 r6, .slice a7 m7 r7] 25)
        clear hon hvu hA hJ9
        show wpList _ _ _ _ _ _
        simp only [Grow.dstOf, List.getElem?_toArray, List.getElem?_cons_succ, List.getElem?_cons_zero, Option.bind_some, Act.put, List.setIfInBounds_toArray, List.set_cons_succ, List.set_cons_zero]
        go_wp2
        exact ⟨hPS, hB9, rfl⟩
      case tle =>
        intro w3 hbz u0 hu0 u1 hu1 u2 hu2 u3 hu3 u4 hu4
        have hJ3 := HJ.out.kept hbz
        obtain rfl : u0 = _ := hu0
        have hu1 : v = u1 := Eq.symm hu1
        subst hu1
        obtain rfl : u2 = _ := hu2
        obtain ⟨v8, c8, rfl, _, _, hA⟩ := hu3
        obtain ⟨v9, c9, B9, rfl, hB9, hRB9, hon, hvu⟩ := hu4
        have HAA := Lib.hid hA
        have HVU := Lib.hid hvu
        have HJ3 := Lib.hid hJ3
        have HON := Lib.hid hon
        have HRB9 := Lib.hid hRB9
        clear hA hvu hJ3 hon hRB9 hbz c0 c1 c2 c3 hv0 HVC
        show wpList _ _ _ _ _ _
        simp only [Act.put, List.setIfInBounds_toArray, List.set_cons_succ, List.set_cons_zero]
        refine wpList_append_it rfl _ _ rfl rfl rfl HJ3.out.er HON.out HRB9.out (by have := HJ3.out.rv.lt; omega) (by have := HAL.out; have := HBS.out; omega) ?_
        intro a5 LN q5 X4 hE5 hg5
        have hs3 : X4.cell? ⟨vb, 3, none⟩ = some v := (Rw.rh_grown HJ3.out.rv hg5 (HJ3.out.er.ne (by omega))).cell 3
        have hz3 : X4.frozen? ⟨vb, 3, none⟩ = false := (Rw.rh_grown HJ3.out.rv hg5 (HJ3.out.er.ne (by omega))).fre 3
        have HJ5 := Lib.hid (lj_step (j := 3) HJ3.out (fun _ _ => rfl) hE5 hg5).1
        have HRD5 := Lib.hid (lj_rj (j := 3) (v' := .slice a5 LN q5) HJ3.out hg5)
        clear hE5 hg5
        go_wp2_with fail
        (try clear hs3)
        (try clear hz3)
        generalize X4.setCell ⟨vb, 3, none⟩ (.slice a5 LN q5) = Z at *
        have HLA : Hid ((acc ++ [v9]).length ≤ b + 1) := Lib.hid (by rw [List.length_append, List.length_singleton]; have := HAL.out; omega)
        cases y with
        | bad q er =>
          obtain ⟨a3, ha3, hRa, _⟩ := HAA.out
          have HXB : Hid (x = .bad q er) := Lib.hid (by rw [HXE.out, ← HY.out, elsP_bad1 HV.out]; rfl)
          have hR5 := HRD5.out s _ _ _ hRa
          refine (more_err rb s a3 _ er 93 Z hR5 hs (Int.natCast_nonneg _) (by decide)).mono ?_
          rintro e Z3 ⟨rfl, hR, hg⟩
          have HJZ := Lib.hid (HJ5.out.kept hg)
          have HAX : Hid (AftJ s rb w Z3 x) := Lib.hid (by rw [HXB.out]; exact ⟨a3, ha3, hR, HJZ.out.gr⟩)
          have HVX : Hid (∀ u r, x = .ok u r → lsV (acc ++ [v9]) = u) := Lib.hid (fun u r e => by rw [HXB.out] at e; cases e)
          clear hR hg hR5 hRa HRD5
          obtain ⟨d0, d1, d2, d3, d4⟩ := va5 HJZ.out.rv
          have HF : Hid (ValJ s rb w x (.returned (.agg (vAr 4 0 eB (.slice a5 LN q5) (.slice none 0 0)))) (Z3.setRow w.heap.size (vAr 4 0 eB (.slice a5 LN q5) (.slice none 0 0)))) := Lib.hid ⟨lsV (acc ++ [v9]), _, rfl, ((lj_list HJZ.out).keep (by rw [setRow_size]; exact Nat.le_refl _) (fun q _ hq => setRow_other _ _ _ _ (by omega))).mono (fun q _ hq => Nat.le_of_lt hq), HVX.out, HAX.out.row (Nat.le_refl _) (by have := HRB.out; omega) _⟩
          go_wp2_with (refine wpList_store_row rfl _ _ _ rfl w.heap.size (vAr 4 0 eB (.slice a5 LN q5) (.slice none 0 0)) rfl rfl _ _ HJZ.out.rr (v_inf5 _ _ _ _ _) rfl (v_all5 _ _ _ _ _ _ _ _ _) ?_)
          (try simp only [Exit.inBlock, Exit.then])
          refine bodyPost_ret (v := .agg (vAr 4 0 eB (.slice a5 LN q5) (.slice none 0 0))) (results_cell_row rfl _ _ _ _ _ _ _ rfl (HJZ.out.rr.row _) Tryz.underlying25 rfl (v_inf5 _ _ _ _ _)) rfl HF.out
        | ok t r =>
          obtain ⟨a3, ha3, hda3, hRa, _⟩ := HAA.out
          have hvt : v9 = t := HVU.out t r rfl
          subst hvt
          have hR5 := HRD5.out s _ _ _ hRa
          have HQ3 : Hid (s.size - a3 ≤ s.size - b) := Lib.hid (by
            have := valP_len g (dr s b) HV.out
            rw [← hda3, dr_len ha3, dr_len HBS.out] at this
            exact this)
          have HA3 := Lib.hid ha3
          have hmo := jmore_at rb s a3 93 Z hR5 hs ha3 (by decide)
          rw [hda3] at hmo
          obtain ⟨m, hm⟩ : ∃ m, moreP 93 r = m := ⟨_, rfl⟩
          have HM := Lib.hid hm
          rw [hm] at hmo
          have HMO : Hid (Calls Tryz.prog 46 #[.pointer (some ⟨rb, 0, none⟩), .int .u8 93] Z (MoreJ s rb a3 Z m)) := Lib.hid hmo
          clear hmo hm hR5 hRa HRD5 hda3 ha3
          refine HMO.out.mono ?_
          cases m with
          | bad q er =>
            rintro e Z4 ⟨rfl, a4, ha4, hR, hg⟩
            have HXB : Hid (x = .bad q er) := Lib.hid (by rw [HXE.out, ← HY.out, elsP_bad2 HV.out HM.out]; rfl)
            have HJZ := Lib.hid (HJ5.out.kept hg)
            have HAX : Hid (AftJ s rb w Z4 x) := Lib.hid (by rw [HXB.out]; exact ⟨a4, ha4, hR, HJZ.out.gr⟩)
            have HVX : Hid (∀ u r, x = .ok u r → lsV (acc ++ [v9]) = u) := Lib.hid (fun u r e => by rw [HXB.out] at e; cases e)
            clear hR hg
            obtain ⟨d0, d1, d2, d3, d4⟩ := va5 HJZ.out.rv
            have HF : Hid (ValJ s rb w x (.returned (.agg (vAr 4 0 eB (.slice a5 LN q5) (.slice none 0 0)))) (Z4.setRow w.heap.size (vAr 4 0 eB (.slice a5 LN q5) (.slice none 0 0)))) := Lib.hid ⟨lsV (acc ++ [v9]), _, rfl, ((lj_list HJZ.out).keep (by rw [setRow_size]; exact Nat.le_refl _) (fun q _ hq => setRow_other _ _ _ _ (by omega))).mono (fun q _ hq => Nat.le_of_lt hq), HVX.out, HAX.out.row (Nat.le_refl _) (by have := HRB.out; omega) _⟩
            go_wp2_with (refine wpList_store_row rfl _ _ _ rfl w.heap.size (vAr 4 0 eB (.slice a5 LN q5) (.slice none 0 0)) rfl rfl _ _ HJZ.out.rr (v_inf5 _ _ _ _ _) rfl (v_all5 _ _ _ _ _ _ _ _ _) ?_)
            (try simp only [Exit.inBlock, Exit.then])
            refine bodyPost_ret (v := .agg (vAr 4 0 eB (.slice a5 LN q5) (.slice none 0 0))) (results_cell_row rfl _ _ _ _ _ _ _ rfl (HJZ.out.rr.row _) Tryz.underlying25 rfl (v_inf5 _ _ _ _ _)) rfl HF.out
          | ok bb t =>
            cases bb with
            | false =>
              rintro e Z4 ⟨rfl, a4, ha4, hd4, hR, hg⟩
              have HXO : Hid (x = .ok (lsV (acc ++ [v9])) t) := Lib.hid (by rw [HXE.out, ← HY.out, elsP_ok HV.out HM.out, if_neg (by decide)]; rfl)
              have HJZ := Lib.hid (HJ5.out.kept hg)
              have HAX : Hid (AftJ s rb w Z4 x) := Lib.hid (by rw [HXO.out]; exact ⟨a4, ha4, hd4, hR, HJZ.out.gr⟩)
              have HVX : Hid (∀ u r, x = .ok u r → lsV (acc ++ [v9]) = u) := Lib.hid (fun u r e => by rw [HXO.out] at e; cases e; rfl)
              clear hR hg hd4
              obtain ⟨d0, d1, d2, d3, d4⟩ := va5 HJZ.out.rv
              have HF : Hid (ValJ s rb w x (.returned (.agg (vAr 4 0 eB (.slice a5 LN q5) (.slice none 0 0)))) (Z4.setRow w.heap.size (vAr 4 0 eB (.slice a5 LN q5) (.slice none 0 0)))) := Lib.hid ⟨lsV (acc ++ [v9]), _, rfl, ((lj_list HJZ.out).keep (by rw [setRow_size]; exact Nat.le_refl _) (fun q _ hq => setRow_other _ _ _ _ (by omega))).mono (fun q _ hq => Nat.le_of_lt hq), HVX.out, HAX.out.row (Nat.le_refl _) (by have := HRB.out; omega) _⟩
              go_wp2_with (refine wpList_store_row rfl _ _ _ rfl w.heap.size (vAr 4 0 eB (.slice a5 LN q5) (.slice none 0 0)) rfl rfl _ _ HJZ.out.rr (v_inf5 _ _ _ _ _) rfl (v_all5 _ _ _ _ _ _ _ _ _) ?_)
              (try simp only [Exit.inBlock, Exit.then])
              refine bodyPost_ret (v := .agg (vAr 4 0 eB (.slice a5 LN q5) (.slice none 0 0))) (results_cell_row rfl _ _ _ _ _ _ _ rfl (HJZ.out.rr.row _) Tryz.underlying25 rfl (v_inf5 _ _ _ _ _)) rfl HF.out
            | true =>
              rintro e Z4 ⟨rfl, a4, hal, ha4, hd4, hR, hg⟩
              have HEL : Hid (elsP g (acc ++ [v9]) (skipW (dr s a4)) = y0) := Lib.hid (by rw [hd4, ← HY.out, elsP_ok HV.out HM.out, if_pos rfl])
              have HJ9 := Lib.hid (HJ5.out.kept hg)
              have HR9 := Lib.hid hR
              have HQ6 : Hid (b < a4) := Lib.hid (by have := HQ3.out; have := HA3.out; have := HBS.out; omega)
              have HM6 := Lib.hid (jmeas hR)
              clear hR hg hd4
              go_wp2_with fail
              go_roundw
              case rel => exact ⟨acc ++ [v9], a4, g, .slice a5 LN q5, E ++ [c9], ha4, Lib.hid (by have := HLA.out; have := HQ6.out; omega), Lib.hid (by have := HGB.out; have := HQ6.out; omega), Lib.hid (by have := HGF.out; omega), HEL, HJ9, HR9⟩
              case measure => rw [HM6.out, HMX.out]; have := HQ6.out; have := HBB.out; omega
end Fd
end Go.Proofs.YtbhcfmdogdaodaaGreatDoor
namespace Go.Proofs.YtbhcfmdogdaodaaGreatDoor
open Go.RowKit
namespace Fd
open _root_.Go.Proofs.YtbhcfmdogdaodaaGreatDoor.Nt (RH RH.cell RH.box RH.lt RH.new RH.ext RH.fre RH.set RH.other)
open _root_.Go.Proofs.YtbhcfmdogdaodaaGreatDoor.Rw (All2 All2.get All2.length All2.append All2.mono fl_len wpList_load_agg wp_stored)
theorem lenL_le : ∀ l : List V, l.length ≤ pNL l
  | [] => Nat.zero_le _
  | x :: l => by
    have h1 := pN_pos x
    have h2 := lenL_le l
    rw [List.length_cons]
    simp only [pNL]
    omega
def inB (v lo hi : Int) : Bool := decide (lo ≤ v) && decide (v ≤ hi)
set_option maxRecDepth 100000 in
set_option maxHeartbeats 8000000 in
theorem within_at (v lo hi : Int) (w : World) : Calls Tryz.prog 54 #[.int .i64 v, .int .i64 lo, .int .i64 hi] w fun e w' => e = .returned (.bool (inB v lo hi)) ∧ w = w' := by
  have H1 : Hid (v < lo → inB v lo hi = false) := Lib.hid (fun h => by unfold inB; rw [decide_eq_false (by omega)]; rfl)
  have H2 : Hid (lo ≤ v → v ≤ hi → inB v lo hi = true) := Lib.hid (fun h h' => by unfold inB; rw [decide_eq_true h, decide_eq_true h']; rfl)
  have H3 : Hid (hi < v → inB v lo hi = false) := Lib.hid (fun h => by unfold inB; rw [decide_eq_false (show ¬ v ≤ hi by omega), Bool.and_false])
  generalize inB v lo hi = r at *
  go_enter Tryz.func54, Tryz.ntmps54
  by_cases h : lo ≤ v
  · by_cases h' : v ≤ hi
    · have HN := Lib.hid (H2.out h h')
      clear H1 H2 H3
      go_wp2
      go_ret
      exact ⟨ret_bool (by rw [HN.out]; try simp), rfl⟩
    · have HN := Lib.hid (H3.out (by omega))
      clear H1 H2 H3
      go_wp2
      go_ret
      exact ⟨ret_bool (by rw [HN.out]; try simp [h']), rfl⟩
  · have HN := Lib.hid (H1.out (by omega))
    clear H1 H2 H3
    go_wp2
    go_ret
    exact ⟨ret_bool (by rw [HN.out]; try simp), rfl⟩
set_option maxRecDepth 100000 in
set_option maxHeartbeats 8000000 in
theorem printable_at (s : ByteArray) (hs : s.size ≤ maxLen) (w : World) : Calls Tryz.prog 55 #[.string s] w fun e w' => e = .returned (.bool (seenB s)) ∧ w = w' := by
  unfold maxLen at hs
  go_enter Tryz.func55, Tryz.ntmps55
  go_wp2
  go_loop [6] (fun i => ∃ k : Nat, k ≤ s.size ∧ i = .int .i64 k ∧ Hid ((s.data.toList.take k).all seenC = true)) (fun i => s.size - (intOf i).toNat)
  case atStart => exact ⟨0, by omega, rfl, rfl⟩
  case round =>
    obtain ⟨k, hk, rfl, HA⟩ := hrel
    by_cases hlt : k < s.size
    · by_cases h1 : (s[k].toNat : Int) < 32
      · have HW : Hid (seenB s = false) := Lib.hid (all_not seenC _ _ hlt (by unfold seenC; simp; omega))
        go_wp2
        go_ret
        exact ⟨ret_bool HW.out.symm, rfl⟩
      · by_cases h2 : 126 < (s[k].toNat : Int)
        · have HW : Hid (seenB s = false) := Lib.hid (all_not seenC _ _ hlt (by unfold seenC; simp; omega))
          go_wp2
          go_ret
          exact ⟨ret_bool HW.out.symm, rfl⟩
        · have HW : Hid (seenC s[k] = true) := by exact (by unfold seenC; simp; omega : seenC s[k] = true)
          go_wp2
          go_round
          case rel => exact ⟨k + 1, by omega, by go_num, all_snoc _ _ _ hlt HA.out HW.out⟩
          case measure => simp [intOf]; omega
    · have HW : Hid (seenB s = true) := Lib.hid (all_end seenC _ _ hlt HA.out)
      go_wp2
      go_ret
      exact ⟨ret_bool HW.out.symm, rfl⟩
/-- a row of values of the call's own: what lies behind them lies ahead of the call -/
structure OwnV (w0 w : World) (l : List V) (v : Value) (E : List (List Value)) : Prop where
  own : w.ownsRow w0.heap.size 25 5 v l.length E.flatten
  rep : All2 (RepV w0) l E
theorem OwnV.ext {w0 w w' : World} {l : List V} {v : Value} {E : List (List Value)} (h : OwnV w0 w l v E) (hb : Below w.heap.size w w') : OwnV w0 w' l v E := ⟨own_keep h.own (Rw.Kept.below hb), h.rep⟩
theorem OwnV.five {w0 w : World} {l : List V} {v : Value} {E : List (List Value)} (h : OwnV w0 w l v E) : ∀ c ∈ E, c.length = 5 := all_len (fun _ _ => RepV.len) h.rep
theorem OwnV.sl {w0 w : World} {l : List V} {v : Value} {E : List (List Value)} (h : OwnV w0 w l v E) : Sl w v l.length E.flatten := Sl.ofOwn h.own
theorem wpList_snocV {ops : Array Oper} {rest : List Oper} {o : Oper} {a : Act} {Q : Exit → Act → World → Prop} {w w0 : World} (hgd : o.guard = none) (s x : Operand)
    (ho : o.op = .call { callee := .builtin .append, args := #[s, x], argTypes := #[22, 22] })
    {l : List V} {v : Value} {E : List (List Value)} {m : V} {c : List Value} {B : Nat} {tB : TypeId}
    (hs : a.eval s = v) (hx : a.eval x = .slice (some ⟨B, 0, none⟩) 1 1) (hO : OwnV w0 w l v E) (hc : RepV w0 m c) (hb : w0.heap.size ≤ w.heap.size)
    (hB : RH w B c.toArray tB) (hn : l.length ≤ 100000000)
    (h : ∀ a7 c7 LN w7, LN = (l ++ [m]).length → w.grownBy w7 v.ownBlock → OwnV w0 w7 (l ++ [m]) (.slice a7 LN c7) (E ++ [c]) → wpList Tryz.prog ops Q rest (a.put o.dst (.slice a7 LN c7)) w7) :
    wpList Tryz.prog ops Q (o :: rest) a w := by
  obtain ⟨J, hJ⟩ : ∃ i, Tryz.prog.info? 25 = some i := by
    cases hq : Tryz.prog.info? 25 with
    | none => have := vI; rw [hq] at this; cases this
    | some i => exact ⟨i, rfl⟩
  have hci := vI
  rw [hJ] at hci
  simp only [Option.map_some, Option.some.injEq, Prod.mk.injEq] at hci
  obtain ⟨hz1, hz2, hz3⟩ := hci
  have hl : c.length = 5 := RepV.len hc
  have hcB : ∀ (j : Nat) (u : Value), c[j]? = some u → w.cell? ((⟨B, 0, none⟩ : Addr).add j) = some u := fun j u hu => by
    rw [add_spot, Nat.zero_add, hB.cell]; exact (List.getElem?_toArray).trans hu
  refine wpList_append_own_at _ hgd s x _ ho w0.heap.size _ J _ 5 80 Tryz.underlying22 hJ hz1 hz2 hz3 rfl (by decide) v l.length E.flatten hs hO.own ⟨B, 0, none⟩ 1 1 c hx (by rw [hl]) hcB (RepV.one hc) (by unfold maxLen; omega) (by omega) hb ?_
  intro v' w' g1 g2 _ g3
  have hO7 : OwnV w0 w' (l ++ [m]) v' (E ++ [c]) := ⟨by rw [List.length_append, List.flatten_append]; simpa using g1, All2.append hO.rep ⟨hc, trivial⟩⟩
  obtain ⟨a7, c7, e7⟩ : ∃ a c, v' = .slice a (l ++ [m]).length c := by
    obtain ⟨a, c, e, _⟩ := hO7.sl
    exact ⟨a, c, e⟩
  subst e7
  exact h a7 c7 _ w' rfl g2 hO7
def InnPost (x : V) (w : World) (e : Ending) (w' : World) : Prop := ∃ (a : Option Addr) (c : Nat) (E : List (List Value)), e = .returned (.slice a (inner x).length c) ∧ OwnV w w' (inner x) (.slice a (inner x).length c) E ∧ Below w.heap.size w w'
set_option maxRecDepth 100000 in
set_option maxHeartbeats 8000000 in
theorem inner_at (x : V) (cs : List Value) (w : World) (hx : RepV w x cs) (hn : pN x ≤ 10000000) : Calls Tryz.prog 52 #[.agg cs.toArray] w (InnPost x w) := by
  have hp := pN_inner x
  have hlen : (inner x).length ≤ pNL (inner x) := lenL_le _
  obtain ⟨k, n, s, is, fs⟩ := x
  obtain ⟨ai, ci, af, cf, EI, EF, rfl, i1, i2, i3, hV⟩ := RepV.open hx
  have HV := Lib.hid hV
  have hL : is.length + fs.length ≤ 10000000 := by
    have : (inner (.mk k n s is fs)).length = is.length + fs.length := by simp [inner, items, fields]
    omega
  have HIN : Hid (inner (.mk k n s is fs) = is ++ fs.map vlF) := Lib.hid rfl
  have hl1 : is.length ≤ 10000000 := by omega
  have hl2 : fs.length ≤ 10000000 := by omega
  clear hx hV i1 i2 i3 hp hlen hn
  show Calls Tryz.prog 52 #[.agg #[.int .i64 k, .int .i64 n, .string s, .slice ai is.length ci, .slice af fs.length cf]] w (InnPost (.mk k n s is fs) w)
  go_enter Tryz.func52, Tryz.ntmps52
  go_upto_region 1 with (fail)
  refine wp_box1 fun W hszW hbW hA => ?_
  have a3 : W.cell? ⟨w.heap.size, 3, none⟩ = some (.slice ai is.length ci) := hA.2 3
  have HA := Lib.hid hA
  have HBW := Lib.hid hbW
  have HCL := Lib.hid (cloneV_at is.length EI.flatten ai ci W (HV.out.si.ext hbW) (by rw [fl_len (all_len (fun _ _ => RepV.len) HV.out.ri), ← All2.length HV.out.ri]) (all_one (fun _ _ => RepV.one) HV.out.ri) (by omega))
  clear hszW hA hbW
  go_wp2_with fail
  refine HCL.out.mono ?_
  rintro e w1 ⟨a', c', rfl, ho, hb1⟩
  have HW1 := Lib.hid (ext_trans HBW.out hb1)
  have HO1 : Hid (OwnV w w1 (is ++ []) (.slice a' (is ++ ([] : List V)).length c') EI) := Lib.hid (by
    rw [List.append_nil]
    exact ⟨Rw.own_mono ho HBW.out.size, HV.out.ri⟩)
  have a4 : w1.cell? ⟨w.heap.size, 4, none⟩ = some (.slice af fs.length cf) := (HA.out.ext hb1).2 4
  clear a3 HCL ho hb1 HA
  obtain ⟨n1, hn1⟩ : ∃ n1, is.length = n1 := ⟨_, rfl⟩
  have HN1 := Lib.hid hn1
  rw [hn1]
  clear hn1
  go_wp2_with fail
  go_loopw [3, 12] (fun v i wr => ∃ (q : Nat) (E : List (List Value)) (a : Option Addr) (c : Nat) (LN : Nat), q ≤ fs.length ∧ i = .int .i64 (q : Int) ∧ v = .slice a LN c ∧ Hid (LN = (is ++ (fs.take q).map vlF).length) ∧ Hid (OwnV w wr (is ++ (fs.take q).map vlF) (.slice a LN c) E) ∧ Hid (Below w.heap.size w wr)) (fun _ i _ => fs.length - (intOf i).toNat)
  case atStart => exact ⟨0, EI, a', c', n1, Nat.zero_le _, rfl, rfl, Lib.hid (by rw [← HN1.out]; simp), Lib.hid (by have := HO1.out; rw [← HN1.out]; simpa using this), HW1⟩
  case round =>
    clear HO1 HW1 HN1
    obtain ⟨q, E, a, c, LN, hq, rfl, rfl, HLN, HO, HW⟩ := hrel
    generalize hXX : wr = X at *
    clear hXX a4
    by_cases hlt : q < fs.length
    · obtain ⟨f, hfu⟩ : ∃ f, fs[q]? = some f := ⟨_, List.getElem?_eq_getElem hlt⟩
      obtain ⟨cy, hcy, hry0⟩ := All2.get HV.out.rf hfu
      have hry := RepF.ext HW.out hry0
      obtain ⟨p, o, e0, hp0, hcell⟩ := sl_elem (HV.out.sf.ext HW.out) (all_len (fun _ _ => RepF.len) HV.out.rf) (by omega) hcy
      subst e0
      obtain ⟨nm, y⟩ := f
      have hry2 := hry0
      simp only [RepF] at hry2
      obtain ⟨cv5, rfl, hnm, hrv⟩ := hry2
      obtain ⟨ky, ny, sy, a1, m1, r1, a2, m2, r2, rfl⟩ := V5 hrv
      have HFU := Lib.hid hfu
      have HRV := Lib.hid hrv
      have HINF := Lib.hid (f_info hry)
      have HONE := Lib.hid (all_arr (RepF.one hry))
      have hqi : (q : Int) < (fs.length : Int) := by omega
      clear hfu hcy hry0 hry hnm hrv hp0
      go_upto_region 5 with (first | (refine wpList_load_agg rfl _ _ rfl p (o + q * 6) (by rfl) [.string nm, .int .i64 ky, .int .i64 ny, .string sy, .slice a1 m1 r1, .slice a2 m2 r2] (fun j v hj => by rw [Nat.add_assoc]; exact hcell j v hj) _ Tryz.underlying54 rfl HINF.out ?_) | (refine wpList_store_row rfl _ _ _ rfl X.heap.size #[.string nm, .int .i64 ky, .int .i64 ny, .string sy, .slice a1 m1 r1, .slice a2 m2 r2] rfl rfl _ _ (RH.new _ _ _) HINF.out rfl HONE.out ?_))
      refine wp_stored fun Y hbY hRf => ?_
      have HOY := Lib.hid (HO.out.ext hbY)
      have HWY := Lib.hid (ext_trans HW.out hbY)
      have f1 : Y.cell? ⟨X.heap.size, 1, none⟩ = some (.int .i64 ky) := hRf.cell 1
      have f2 : Y.cell? ⟨X.heap.size, 2, none⟩ = some (.int .i64 ny) := hRf.cell 2
      have f3 : Y.cell? ⟨X.heap.size, 3, none⟩ = some (.string sy) := hRf.cell 3
      have f4 : Y.cell? ⟨X.heap.size, 4, none⟩ = some (.slice a1 m1 r1) := hRf.cell 4
      have f5 : Y.cell? ⟨X.heap.size, 5, none⟩ = some (.slice a2 m2 r2) := hRf.cell 5
      generalize X.heap.size = fb at *
      have HLL : Hid ((is ++ (fs.take q).map vlF).length ≤ 100000000) := Lib.hid (by rw [List.length_append, List.length_map, List.length_take]; omega)
      have HTK : Hid (is ++ (fs.take (q + 1)).map vlF = (is ++ (fs.take q).map vlF) ++ [y]) := Lib.hid (by rw [take_one HFU.out, List.map_append, ← List.append_assoc]; rfl)
      clear hbY hRf hcell HO HW HINF HONE
      go_wp2_with (at_builtin; refine wpList_snocV (w0 := w) (l := is ++ (fs.take q).map vlF) rfl _ _ rfl rfl rfl (HOY.out.ext (ext_alloc _ _)) HRV.out (Nat.le_trans HWY.out.size (ext_alloc _ _).size) (RH.new _ _ _) HLL.out ?_; intro a7 c7 LN7 w7 hLN7 hg7 hO7; have HLN7 := Lib.hid hLN7; have HO7 := Lib.hid hO7; have HG7 := Lib.hid hg7; clear hLN7 hO7 hg7)
      have HW7 : Hid (Below w.heap.size w w7) := Lib.hid ((ext_trans HWY.out (ext_alloc _ _)).grown HG7.out (Nat.le_trans HWY.out.size (ext_alloc _ _).size) (fun q9 h9 => (Rw.own_base HOY.out.own q9 h9).1))
      go_roundw
      case rel => exact ⟨q + 1, _, a7, c7, LN7, by omega, by go_num, rfl, Lib.hid (by rw [HTK.out]; exact HLN7.out), Lib.hid (by rw [HTK.out]; exact HO7.out), HW7⟩
      case measure => simp [intOf]; omega
    · obtain rfl : q = fs.length := by omega
      have HF : Hid (LN = (inner (.mk k n s is fs)).length) := Lib.hid (by rw [HLN.out, HIN.out, List.take_length])
      have HOF : Hid (OwnV w X (inner (.mk k n s is fs)) (.slice a LN c) E) := Lib.hid (by have := HO.out; rw [List.take_length] at this; rw [HIN.out]; exact this)
      clear HO HLN
      go_wp2_with fail
      go_ret
      have := HF.out
      subst this
      exact ⟨a, c, E, rfl, HOF.out, HW.out⟩
end Fd
end Go.Proofs.YtbhcfmdogdaodaaGreatDoor
