/- object of the reference's reader. Printed by gen_rjk.py. -/
import Derived.Test.YtbhcfmdogdaodaaGreatDoorRz28
namespace Go.Proofs.YtbhcfmdogdaodaaGreatDoor
open Go.RowKit
namespace Fd
open _root_.Go.Proofs.YtbhcfmdogdaodaaGreatDoor.Nm
open _root_.Go.Proofs.YtbhcfmdogdaodaaGreatDoor.Nt (RH RH.cell RH.box RH.lt RH.new RH.ext RH.fre RH.set RH.other)
open _root_.Go.Proofs.YtbhcfmdogdaodaaGreatDoor.Nt (RH.row RH.row_other RH.set_other)
open _root_.Go.Proofs.YtbhcfmdogdaodaaGreatDoor.Rw (All2 All2.get All2.length All2.mono All2.append Fresh fresh_own Kept wp_stored)
open _root_.Go.Proofs.YtbhcfmdogdaodaaGreatDoor.Tx (stB)
set_option maxRecDepth 100000 in
set_option maxHeartbeats 8000000 in
theorem jobject_at (rb : Nat) (s : ByteArray) (a f : Nat) (w : World) (h : RJ w rb s a (-1) 0) (hs2 : s.size ≤ 25000) (hp123 : pk s a = 123) (ha : a < s.size) (hf : 2 * (s.size - (a + 1)) + 2 ≤ f) (HI : ∀ g, g < f → ValJAt s rb g) : Calls Tryz.prog 28 #[.pointer (some ⟨rb, 0, none⟩)] w (ValJ s rb w (objP f (dr s (a + 1)))) := by
  have hs : s.size ≤ 1000000 := by omega
  have hs1 : (s.size : Int) ≤ 1000000 := by omega
  have HS2 := Lib.hid hs2
  have HR := Lib.hid h
  have HVA := Lib.hid HI
  have HP1 := Lib.hid hp123
  have HRB : Hid (rb < w.heap.size) := Lib.hid h.lt
  obtain ⟨x, hx⟩ : ∃ x, objP f (dr s (a + 1)) = x := ⟨_, rfl⟩
  have HX := Lib.hid hx
  have HA := Lib.hid ha
  have HF := Lib.hid hf
  rw [hx]
  clear h hx ha HI hf hp123 hs2
  go_enter Tryz.func28, Tryz.ntmps28
  go_upto_region 1 with (fail)
  refine Tx.wp_vr1 fun W hbW hR1 => ?_
  have HRW := Lib.hid (HR.out.ext hbW)
  have HGW := Lib.hid (gr_below hbW (some rb))
  have HQW := Lib.hid hR1
  clear hbW hR1 HR
  go_upto_region 2 with (refine wpList_store_row rfl _ _ _ rfl W.heap.size (vAr 5 0 eB (.slice none 0 0) (.slice none 0 0)) rfl rfl _ _ (RH.new _ _ _) (v_inf5 _ _ _ _ _) rfl (v_all5 _ _ _ _ _ _ _ _ _) ?_)
  refine wp_stored fun Y hbY hRv => ?_
  obtain ⟨vb, hvb⟩ : ∃ vb, W.heap.size = vb := ⟨_, rfl⟩
  have HR0 := Lib.hid (HRW.out.ext hbY)
  have HJ0 : Hid (OJ rb w vb Y [] (.slice none 0 0) []) := Lib.hid ⟨hvb ▸ hRv, HQW.out.ext hbY, hvb ▸ HQW.out.lt, HRB.out, FR.nil _ Y, HGW.out.trans (gr_below hbY (some rb))⟩
  rw [hvb]
  clear hbY hRv HRW HGW HQW hvb
  go_wp2_with fail
  refine (must_ok rb s a 123 Y HR0.out hs HA.out HP1.out).mono ?_
  rintro e Y1 ⟨rfl, hR, hg⟩
  have HR1 := Lib.hid hR
  have HJ1 := Lib.hid (HJ0.out.kept hg)
  clear hR hg HR0 HJ0
  go_wp2_with fail
  refine (jblanks_at rb s (a + 1) Y1 HR1.out hs HA.out).mono ?_
  rintro e Y2 ⟨rfl, b, hb, hbd, hR, hg⟩
  have HR2 := Lib.hid hR
  have HJ2 := Lib.hid (HJ1.out.kept hg)
  have HB := Lib.hid hb
  have HBD := Lib.hid hbd
  have HBA : Hid (s.size - b ≤ s.size - (a + 1)) := Lib.hid (by
    have := skipW_len (dr s (a + 1))
    rw [← hbd, dr_len hb, dr_len HA.out] at this
    exact this)
  have hbi : (b : Int) ≤ 1000000 := by omega
  clear hR hg HR1 HJ1 hb hbd
  go_wp2_with fail
  refine (jnext_at rb s b (-1) 0 Y2 HR2.out hs).mono ?_
  rw [nx_ok]
  rintro e Y3 ⟨rfl, hR, hg, -⟩
  have HR3 := Lib.hid hR
  have HJ3 := Lib.hid (HJ2.out.kept hg)
  clear hR hg HR2 HJ2
  by_cases hp : pk s b = 125
  · have hpb : (pk s b == 125) = true := by simpa using hp
    have HE := Lib.hid (objP_end (f := f) HBD.out hp)
    have HXO : Hid (x = .ok (obj []) (dr s (b + 1))) := Lib.hid (HX.out.symm.trans HE.out.2)
    clear hp
    obtain ⟨c0, c1, c2, c3⟩ := HR3.out.c
    have z1 := HR3.out.z 1
    have hg := gr_set Y3 rb 1 (.int .i64 ((b : Int) + 1))
    have HR4 : Hid (RJ (Y3.setCell ⟨rb, 1, none⟩ (.int .i64 ((b : Int) + 1))) rb s (b + 1) (-1) 0) := Lib.hid (HR3.out.next (b + 1))
    have HJ4 := Lib.hid (HJ3.out.kept hg)
    clear hg
    go_upto_region 6 with (fail)
    clear c0 c1 c2 c3 z1 HR3 HJ3
    generalize Y3.setCell ⟨rb, 1, none⟩ (.int .i64 ((b : Int) + 1)) = Z at *
    have HAX : Hid (AftJ s rb w Z x) := Lib.hid (by rw [HXO.out]; exact ⟨b + 1, HE.out.1, rfl, HR4.out, HJ4.out.gr⟩)
    have HVX : Hid (∀ u r, x = .ok u r → obj [] = u) := Lib.hid (fun u r e => by rw [HXO.out] at e; cases e; rfl)
    have HJZ := HJ4
    obtain ⟨d0, d1, d2, d3, d4⟩ := va5 HJZ.out.rv
    have HF : Hid (ValJ s rb w x (.returned (.agg (vAr 5 0 eB (.slice none 0 0) (.slice none 0 0)))) (Z.setRow w.heap.size (vAr 5 0 eB (.slice none 0 0) (.slice none 0 0)))) := Lib.hid ⟨obj [], _, rfl, ((oj_obj HJZ.out).keep (by rw [setRow_size]; exact Nat.le_refl _) (fun q _ hq => setRow_other _ _ _ _ (by omega))).mono (fun q _ hq => Nat.le_of_lt hq), HVX.out, HAX.out.row (Nat.le_refl _) (by have := HRB.out; omega) _⟩
    go_wp2_with (refine wpList_store_row rfl _ _ _ rfl w.heap.size (vAr 5 0 eB (.slice none 0 0) (.slice none 0 0)) rfl rfl _ _ HJZ.out.rr (v_inf5 _ _ _ _ _) rfl (v_all5 _ _ _ _ _ _ _ _ _) ?_)
    (try simp only [Exit.inBlock, Exit.then])
    refine bodyPost_ret (v := .agg (vAr 5 0 eB (.slice none 0 0) (.slice none 0 0))) (results_cell_row rfl _ _ _ _ _ _ _ rfl (HJZ.out.rr.row _) Tryz.underlying25 rfl (v_inf5 _ _ _ _ _)) rfl HF.out
  · have hpb : (pk s b == 125) = false := beq_eq_false_iff_ne.2 hp
    obtain ⟨y0, hy0⟩ : ∃ y0, fldP f [] (dr s b) = y0 := ⟨_, rfl⟩
    have HXE : Hid (x = y0.bind fun fs q => .ok (obj (putAll [] fs)) q) := Lib.hid (by rw [← hy0]; exact HX.out.symm.trans (objP_els (f := f) HBD.out hp))
    have HY0 : Hid (fldP f [] (skipW (dr s b)) = y0) := Lib.hid (by rw [HBD.out, skip_skip, ← HBD.out]; exact hy0)
    have HFB : Hid (2 * (s.size - b) + 2 ≤ f) := Lib.hid (by have := HF.out; have := HBA.out; omega)
    have HFF : Hid (f ≤ f) := Lib.hid (Nat.le_refl _)
    have HAL : Hid (3 * ([] : List F).length ≤ b) := Lib.hid (Nat.zero_le _)
    have HDI : Hid (DistF []) := Lib.hid List.Pairwise.nil
    have hqb : b ≤ s.size := HB.out
    clear hp hy0 HX HBD HBA HF
    go_wp2_with fail
    go_loopw [] (fun wr => ∃ (acc : List F) (b g : Nat) (v : Value) (E : List (List Value)), b ≤ s.size ∧ Hid (3 * acc.length ≤ b) ∧ Hid (2 * (s.size - b) + 2 ≤ g) ∧ Hid (g ≤ f) ∧ Hid (DistF acc) ∧ Hid (fldP g acc (skipW (dr s b)) = y0) ∧ Hid (OJ rb w vb wr (putAll [] acc) v E) ∧ Hid (RJ wr rb s b (-1) 0)) (fun wr => s.size - (intOf ((wr.cell? ⟨rb, 1, none⟩).getD undef)).toNat)
    case atStart => exact ⟨[], b, f, _, [], hqb, HAL, HFB, HFF, HDI, HY0, HJ3, HR3⟩
    case round =>
      clear HAL HFB HFF HDI HY0 HJ3 HR3 HB hbi hqb hpb
      obtain ⟨acc, b0, g, v, E, hbs0, HAL0, HGB0, HGF, HDI, HY1, HJ0, HR0⟩ := hrel
      cases g with
      | zero => have := HGB0.out; omega
      | succ g =>
      generalize hXX : wr = X0 at *
      clear hXX
      have HMX := Lib.hid (jmeas HR0.out)
      obtain ⟨L, hL⟩ : ∃ L, putAll [] acc = L := ⟨_, rfl⟩
      have HL := Lib.hid hL
      rw [hL] at HJ0
      obtain ⟨av, cv, rfl⟩ := HJ0.out.fr.shape
      have HLL : Hid (L.length ≤ 10000) := Lib.hid (by
        have h9 := putAll_len acc []
        rw [hL, List.length_nil] at h9
        have := HAL0.out
        have := HS2.out
        omega)
      have HLS : Hid (Srt L) := Lib.hid (by rw [← hL]; exact srt_putAll List.Pairwise.nil)
      clear hL
      obtain ⟨c0, c1, c2, c3⟩ := HR0.out.c
      go_wp2_with fail
      clear c0 c1 c2 c3
      refine (jblanks_at rb s b0 X0 HR0.out hs hbs0).mono ?_
      rintro e X ⟨rfl, b, hbs, hbd, hR, hg⟩
      have HR := Lib.hid hR
      have HJ := Lib.hid (HJ0.out.kept hg)
      have HBS := Lib.hid hbs
      have HBB : Hid (b0 ≤ b) := Lib.hid (by
        have h9 := skipW_len (dr s b0)
        rw [← hbd, dr_len hbs, dr_len hbs0] at h9
        omega)
      have HAL : Hid (3 * acc.length ≤ b) := Lib.hid (Nat.le_trans HAL0.out HBB.out)
      have HGB : Hid (2 * (s.size - b) + 2 ≤ g + 1) := Lib.hid (by have := HGB0.out; have := HBB.out; omega)
      have HY : Hid (fldP (g + 1) acc (dr s b) = y0) := Lib.hid (by rw [hbd]; exact HY1.out)
      have HVA2 : Hid (ValJAt s rb g) := Lib.hid (HVA.out g (by have := HGF.out; omega))
      have hbi : (b : Int) ≤ 1000000 := by omega
      clear hR hg hbs hbd HAL0 HGB0 HY1 HJ0 HR0 hbs0
      obtain ⟨c0, c1, c2, c3⟩ := HR.out.c
      go_wp2_with fail
      clear c0 c1 c2 c3
      obtain ⟨y, hy⟩ : ∃ y, textP (dr s b) = y := ⟨_, rfl⟩
      have HTY := Lib.hid hy
      have htx := jtext_at rb s b X HR.out hs HBS.out
      rw [hy] at htx
      have HTX : Hid (Calls Tryz.prog 26 #[.pointer (some ⟨rb, 0, none⟩)] X (TxtJ s rb X y)) := Lib.hid htx
      clear htx hy
      refine HTX.out.mono ?_
      rintro e X1 ⟨tl, htl, rfl, hyv, hA⟩
      have HYV := Lib.hid hyv
      have HJ1 := Lib.hid (HJ.out.kept hA.gr)
      have HA1 : Hid (AftJ s rb w X1 y) := Lib.hid (hA.tr HJ.out.gr)
      obtain ⟨nm, hnm⟩ : ∃ nm, stB tl = nm := ⟨_, rfl⟩
      have HNM := Lib.hid hnm
      have HNL : Hid (nm.size ≤ maxLen) := Lib.hid (by rw [← hnm, Tx.stB_size]; have := HS2.out; unfold maxLen; omega)
      rw [hnm]
      clear hnm htl hyv hA HTX HR HJ
      obtain ⟨a0, a1, a2, a3, a4⟩ := va5 HJ1.out.rv
      have HFO := Lib.hid (fieldOf_at (obj L) nm _ X1 (oj_obj HJ1.out).now)
      have HHAS : Hid ((fofR (obj L) nm).isSome = (lk acc nm).isSome) := Lib.hid (by rw [← HL.out]; exact fofR_has HDI.out nm)
      go_wp2_with fail
      refine HFO.out.mono ?_
      rintro e X2 ⟨c9, rfl, hr9, hb9⟩
      obtain ⟨k9, n9, s9, a9, m9, r9, aa9, mm9, rr9, rfl⟩ := V5 hr9
      have HJ2 := Lib.hid (HJ1.out.below hb9)
      have HA2 : Hid (AftJ s rb w X2 y) := Lib.hid (HA1.out.ext hb9)
      clear hr9 hb9 a0 a1 a2 a3 a4 HFO HJ1 HA1
      rw [HHAS.out]
      go_upto_region 12 with (refine wpList_store_row rfl _ _ _ rfl X2.heap.size (vAr k9 n9 s9 (.slice a9 m9 r9) (.slice aa9 mm9 rr9)) rfl rfl _ _ (RH.new _ _ _) (v_inf5 _ _ _ _ _) rfl (v_all5 _ _ _ _ _ _ _ _ _) ?_)
      refine wp_stored fun X3 hb3 _ => ?_
      have HJ3 := Lib.hid (HJ2.out.below hb3)
      have HA3 : Hid (AftJ s rb w X3 y) := Lib.hid (HA2.out.ext hb3)
      clear hb3 HJ2 HA2
      cases y with
      | bad q er =>
        have HQ : Hid (y0 = fldQ g acc nm (.bad q er)) := Lib.hid (by rw [← HY.out]; exact fldQ_bad nm HTY.out)
        have HML : Hid (∀ (u : Unit) (q' : List UInt8), (Res.bad q er : Res Unit) = .ok u q' → q'.length + 1 ≤ s.size - b) := Lib.hid (fun u q' e => by cases e)
        obtain ⟨m, hm⟩ : ∃ m : Res Unit, m = .bad q er := ⟨_, rfl⟩
        have HA5 : Hid (AftJ s rb w X3 m) := Lib.hid (by rw [hm]; exact HA3.out)
        rw [← hm] at HQ HML
        have HNEW : Hid (∀ u q', m = .ok u q' → (lk acc nm).isSome = false) := Lib.hid (fun u q' e => by rw [hm] at e; cases e)
        obtain ⟨ab, hab, hRb, _⟩ := HA3.out
        obtain ⟨c0, c1, c2, c3⟩ := hRb.c
        clear hm HA3 hab hRb HTY HYV
        cases hh : (lk acc nm).isSome with
        | true =>
          go_upto_region 14 with (fail)
          clear c0 c1 c2 c3 hh
          have HBL := Lib.hid (blanksE HA5.out hs)
          go_wp2_with fail
          refine HBL.out.mono ?_
          rintro e T1 ⟨rfl, hA, hg⟩
          have HB1 := Lib.hid (mustE 58 (by decide) hA hs)
          have HO1 := Lib.hid (HJ3.out.kept hg)
          clear hA hg HBL HA5
          go_wp2_with fail
          refine HB1.out.mono ?_
          rintro e T2 ⟨rfl, hA, hg⟩
          have HB2 := Lib.hid (blanksE hA hs)
          have HO2 := Lib.hid (HO1.out.kept hg)
          clear hA hg HB1 HO1
          go_wp2_with fail
          refine HB2.out.mono ?_
          rintro e T3 ⟨rfl, hA, hg⟩
          have HA3 : Hid (AftJ s rb w T3 (preQ m)) := Lib.hid hA
          have HO := Lib.hid (HO2.out.kept hg)
          clear hA hg HB2 HO2
          obtain ⟨y, hy⟩ : ∃ y, ((preQ m).bind fun _ r => valP g r) = y := ⟨_, rfl⟩
          have HVY := Lib.hid hy
          have HQ2 : Hid (y0 = y.bind fun x u => (moreP 125 u).bind fun bb v => if bb = true then fldP g (acc ++ [.mk nm x]) v else .ok (acc ++ [.mk nm x]) v) := Lib.hid (by rw [HQ.out, fldQ_chain, HVY.out])
          have HVC : Hid (∀ W', Below T3.heap.size T3 W' → Calls Tryz.prog 12 #[.pointer (some ⟨rb, 0, none⟩)] W' (ValJ s rb W' y)) := Lib.hid (fun W' hW => by
            rw [← hy]
            exact valueE HVA2.out (HA3.out.ext hW) hs (fun u r e => by
              have := preQ_len HML.out e
              have := HGB.out
              omega))
          clear hy HQ
          obtain ⟨a0, a1, a2, a3, a4⟩ := va5 HO.out.rv
          go_upto_region 17 with (fail)
          clear a0 a1 a2 a3 a4
          refine GrowB.wp_region_growb (rB := some rb) 4 3 [TP.eq (.agg (vAr 5 0 eB (.slice none 0 0) (.slice av L.length cv))), TP.eq (.string nm), TP.eq (.pointer (some ⟨rb, 0, none⟩)), TPvJ (fromN (vb + 1)) s rb w y] [[], [], [], [2]] (by kernel_rfl) (by kernel_rfl) ?hst ⟨?o0e, ?o1e, ?o2e, ?o3e, trivial⟩ ?tle
          case hst =>
            intro j hj hjc W1 W2 u hg hu
            match j, hj, hjc with
            | 0, _, _ => exact hu
            | 1, _, _ => exact hu
            | 2, _, _ => exact hu
            | j + 3, hj, hjc => omega
          case o0e =>
            intro w' hb
            have hOg := HO.out.kept (show T3.grownBy w' (some rb) from hb)
            obtain ⟨a0, a1, a2, a3, a4⟩ := va5 hOg.rv
            show wpList _ _ _ _ _ _
            go_wp2
            exact ⟨rfl, Below.refl _ _, rfl⟩
          case o1e =>
            intro w' hb
            show wpList _ _ _ _ _ _
            go_wp2
            exact ⟨rfl, Below.refl _ _, rfl⟩
          case o2e =>
            intro w' hb
            show wpList _ _ _ _ _ _
            go_wp2
            exact ⟨rfl, Below.refl _ _, rfl⟩
          case o3e =>
            intro w' hb v2 hv2
            have hbw : Below T3.heap.size T3 w' := hb
            obtain rfl : v2 = _ := hv2
            show wpList _ _ _ _ _ _
            simp only [Grow.dstOf, List.getElem?_toArray, List.getElem?_cons_succ, List.getElem?_cons_zero, Option.bind_some, Act.put, List.setIfInBounds_toArray, List.set_cons_succ, List.set_cons_zero]
            go_wp2_with fail
            refine (HVC.out w' hbw).mono ?_
            rintro e wz ⟨v9, c9, rfl, hon, hvu, hA⟩
            have hO9 := HO.out.below hbw
            have hPV : (TPvJ (fromN (vb + 1)) s rb w y).p wz (.agg c9.toArray) := ⟨v9, c9, rfl, hon.mono (fun q _ hq => .inr (by have := hO9.rv.lt; omega)), hvu, hA.tr hO9.gr⟩
            have hG9 : w'.grownBy wz (some rb) := hA.gr
            clear hon hvu hA hO9
            go_wp2
            exact ⟨hPV, hG9, rfl⟩
          case tle =>
            intro w3 hbz u0 hu0 u1 hu1 u2 hu2 u3 hu3
            have hO3 := HO.out.kept hbz
            obtain rfl : u0 = _ := hu0
            obtain rfl : u1 = _ := hu1
            obtain rfl : u2 = _ := hu2
            obtain ⟨v9, c9, rfl, hon, hvu, hA⟩ := hu3
            have HAA := Lib.hid hA
            have HVU := Lib.hid hvu
            have HO3 := Lib.hid hO3
            have HON := Lib.hid hon
            have HPU := Lib.hid (putP_at 5 0 eB none 0 0 L av cv E nm v9 c9 w3 (pOn (fromN (vb + 1)) w3) hO3.fr.sl hO3.fr.all hon.now (on_field hon HNL.out) HLS.out HLL.out HNL.out)
            clear hA hvu hO3 hon hbz HVC HO
            show wpList _ _ _ _ _ _
            simp only [Act.put, List.setIfInBounds_toArray, List.set_cons_succ, List.set_cons_zero]
            go_wp2_with fail
            refine HPU.out.mono ?_
            rintro e w4 ⟨a5, q5, E5, rfl, hown, hb4⟩
            have HO4 := Lib.hid (HO3.out.below hb4)
            have HFR : Hid (FR (fromN (vb + 1)) w4 (putF nm v9 L) (.slice a5 (putF nm v9 L).length q5) E5) := Lib.hid (FR.ofQ hown hb4 (by have := HO3.out.rv.lt; omega))
            have HA4 : Hid (AftJ s rb w w4 y) := Lib.hid (HAA.out.ext hb4)
            clear hown hb4 HPU HAA HO3 HON
            obtain ⟨L2, hL2⟩ : ∃ L2, putF nm v9 L = L2 := ⟨_, rfl⟩
            have HL2 : Hid (L2 = putAll [] (acc ++ [.mk nm v9])) := Lib.hid (by rw [← hL2, ← HL.out, putAll_snoc])
            rw [hL2] at HFR ⊢
            clear hL2
            go_upto_region 18 with (refine wpList_store_row rfl _ _ _ rfl vb (vAr 5 0 eB (.slice none 0 0) (.slice a5 L2.length q5)) rfl rfl _ _ HO4.out.rv (v_inf5 _ _ _ _ _) rfl (v_all5 _ _ _ _ _ _ _ _ _) ?_)
            have HO5 := Lib.hid (HO4.out.turn HFR.out)
            have HA5 := Lib.hid (HA4.out.row (b := vb) (Nat.le_of_lt HO4.out.lt) (by have := HO4.out.lt; have := HO4.out.lrb; omega) (vAr 5 0 eB (.slice none 0 0) (.slice a5 L2.length q5)))
            clear HFR HO4 HA4
            generalize w4.setRow vb (vAr 5 0 eB (.slice none 0 0) (.slice a5 L2.length q5)) = w5 at *
            obtain ⟨z, hz⟩ : ∃ z, (y.bind fun _ u => moreP 125 u) = z := ⟨_, rfl⟩
            have HQ3 : Hid (y0 = z.bind fun bb v => if bb = true then fldP g (acc ++ [.mk nm v9]) v else .ok (acc ++ [.mk nm v9]) v) := Lib.hid (HQ2.out.trans (moreQ hz HVU.out))
            have hmo := moreE 125 (by decide) HA5.out hs
            rw [hz] at hmo
            have HMO : Hid (Calls Tryz.prog 46 #[.pointer (some ⟨rb, 0, none⟩), .int .u8 125] w5 fun e w' => MoreE s rb w y z e w' ∧ w5.grownBy w' (some rb)) := Lib.hid hmo
            have HZ := Lib.hid hz
            clear hmo hz HQ2 HA5
            go_wp2_with fail
            refine HMO.out.mono ?_
            cases z with
            | bad q er =>
              rintro e Z4 ⟨⟨rfl, a6, ha6, hR, hg⟩, hg2⟩
              have HXB : Hid (x = .bad q er) := Lib.hid (by rw [HXE.out, HQ3.out]; rfl)
              have HJZ := Lib.hid (HO5.out.kept hg2)
              have HAX : Hid (AftJ s rb w Z4 x) := Lib.hid (by rw [HXB.out]; exact ⟨a6, ha6, hR, hg⟩)
              have HVX : Hid (∀ u r, x = .ok u r → obj L2 = u) := Lib.hid (fun u r e => by rw [HXB.out] at e; cases e)
              clear hR hg hg2
              go_upto_region 19 with (fail)
              obtain ⟨d0, d1, d2, d3, d4⟩ := va5 HJZ.out.rv
              have HF : Hid (ValJ s rb w x (.returned (.agg (vAr 5 0 eB (.slice none 0 0) (.slice a5 L2.length q5)))) (Z4.setRow w.heap.size (vAr 5 0 eB (.slice none 0 0) (.slice a5 L2.length q5)))) := Lib.hid ⟨obj L2, _, rfl, ((oj_obj HJZ.out).keep (by rw [setRow_size]; exact Nat.le_refl _) (fun q _ hq => setRow_other _ _ _ _ (by omega))).mono (fun q _ hq => Nat.le_of_lt hq), HVX.out, HAX.out.row (Nat.le_refl _) (by have := HRB.out; omega) _⟩
              go_wp2_with (refine wpList_store_row rfl _ _ _ rfl w.heap.size (vAr 5 0 eB (.slice none 0 0) (.slice a5 L2.length q5)) rfl rfl _ _ HJZ.out.rr (v_inf5 _ _ _ _ _) rfl (v_all5 _ _ _ _ _ _ _ _ _) ?_)
              (try simp only [Exit.inBlock, Exit.then])
              refine bodyPost_ret (v := .agg (vAr 5 0 eB (.slice none 0 0) (.slice a5 L2.length q5))) (results_cell_row rfl _ _ _ _ _ _ _ rfl (HJZ.out.rr.row _) Tryz.underlying25 rfl (v_inf5 _ _ _ _ _)) rfl HF.out
            | ok bb t =>
              cases bb with
              | false =>
                rintro e Z4 ⟨⟨rfl, a6, ha6, hd6, hR, hg⟩, hg2⟩
                have HXO : Hid (x = .ok (obj L2) t) := Lib.hid (by rw [HXE.out, HQ3.out, HL2.out]; rfl)
                have HJZ := Lib.hid (HO5.out.kept hg2)
                have HAX : Hid (AftJ s rb w Z4 x) := Lib.hid (by rw [HXO.out]; exact ⟨a6, ha6, hd6, hR, hg⟩)
                have HVX : Hid (∀ u r, x = .ok u r → obj L2 = u) := Lib.hid (fun u r e => by rw [HXO.out] at e; cases e; rfl)
                clear hR hg hg2 hd6
                go_upto_region 19 with (fail)
                obtain ⟨d0, d1, d2, d3, d4⟩ := va5 HJZ.out.rv
                have HF : Hid (ValJ s rb w x (.returned (.agg (vAr 5 0 eB (.slice none 0 0) (.slice a5 L2.length q5)))) (Z4.setRow w.heap.size (vAr 5 0 eB (.slice none 0 0) (.slice a5 L2.length q5)))) := Lib.hid ⟨obj L2, _, rfl, ((oj_obj HJZ.out).keep (by rw [setRow_size]; exact Nat.le_refl _) (fun q _ hq => setRow_other _ _ _ _ (by omega))).mono (fun q _ hq => Nat.le_of_lt hq), HVX.out, HAX.out.row (Nat.le_refl _) (by have := HRB.out; omega) _⟩
                go_wp2_with (refine wpList_store_row rfl _ _ _ rfl w.heap.size (vAr 5 0 eB (.slice none 0 0) (.slice a5 L2.length q5)) rfl rfl _ _ HJZ.out.rr (v_inf5 _ _ _ _ _) rfl (v_all5 _ _ _ _ _ _ _ _ _) ?_)
                (try simp only [Exit.inBlock, Exit.then])
                refine bodyPost_ret (v := .agg (vAr 5 0 eB (.slice none 0 0) (.slice a5 L2.length q5))) (results_cell_row rfl _ _ _ _ _ _ _ rfl (HJZ.out.rr.row _) Tryz.underlying25 rfl (v_inf5 _ _ _ _ _)) rfl HF.out
              | true =>
                rintro e Z4 ⟨⟨rfl, a6, ha6, hlt6, hd6, hR, hg⟩, hg2⟩
                have HYO : Hid (∃ x' u', y = .ok x' u' ∧ (∃ u q', m = .ok u q')) := Lib.hid (by
                  have h9 := HZ.out
                  obtain ⟨x', u', e1, _⟩ := bind_ok h9
                  have h8 := HVY.out.trans e1
                  obtain ⟨_, r', e2, _⟩ := bind_ok h8
                  unfold preQ at e2
                  obtain ⟨_, _, e3, _⟩ := bind_ok e2
                  obtain ⟨_, _, e4, _⟩ := bind_ok e3
                  obtain ⟨u, q', e5, _⟩ := bind_ok e4
                  exact ⟨x', u', e1, u, q', e5⟩)
                have HQ6 : Hid (b + 3 ≤ a6) := Lib.hid (by
                  obtain ⟨x', u', e1, _⟩ := HYO.out
                  have h9 := hlt6 x' u' e1
                  have h8 := valQ_len HML.out (HVY.out.trans e1)
                  have := HBS.out
                  omega)
                have HEL : Hid (fldP g (acc ++ [.mk nm v9]) (skipW (dr s a6)) = y0) := Lib.hid (by rw [hd6, HQ3.out]; rfl)
                have HDN : Hid (DistF (acc ++ [.mk nm v9])) := Lib.hid (HDI.out.push (by
                  obtain ⟨_, _, _, u, q', e5⟩ := HYO.out
                  exact HNEW.out u q' e5))
                have HJ9 : Hid (OJ rb w vb Z4 (putAll [] (acc ++ [.mk nm v9])) (.slice a5 L2.length q5) E5) := Lib.hid (by rw [← HL2.out]; exact HO5.out.kept hg2)
                have HR9 := Lib.hid hR
                have HM6 := Lib.hid (jmeas hR)
                clear hR hg hg2 hd6 hlt6
                go_wp2_with fail
                go_roundw
                case rel => exact ⟨acc ++ [.mk nm v9], a6, g, .slice a5 L2.length q5, E5, ha6, Lib.hid (by rw [List.length_append, List.length_singleton]; have := HAL.out; have := HQ6.out; omega), Lib.hid (by have := HGB.out; have := HQ6.out; omega), Lib.hid (by have := HGF.out; omega), HDN, HEL, HJ9, HR9⟩
                case measure => rw [HM6.out, HMX.out]; have := HQ6.out; have := HBB.out; omega
        | false =>
          go_upto_region 14 with (fail)
          clear c0 c1 c2 c3 hh
          have HBL := Lib.hid (blanksE HA5.out hs)
          go_wp2_with fail
          refine HBL.out.mono ?_
          rintro e T1 ⟨rfl, hA, hg⟩
          have HB1 := Lib.hid (mustE 58 (by decide) hA hs)
          have HO1 := Lib.hid (HJ3.out.kept hg)
          clear hA hg HBL HA5
          go_wp2_with fail
          refine HB1.out.mono ?_
          rintro e T2 ⟨rfl, hA, hg⟩
          have HB2 := Lib.hid (blanksE hA hs)
          have HO2 := Lib.hid (HO1.out.kept hg)
          clear hA hg HB1 HO1
          go_wp2_with fail
          refine HB2.out.mono ?_
          rintro e T3 ⟨rfl, hA, hg⟩
          have HA3 : Hid (AftJ s rb w T3 (preQ m)) := Lib.hid hA
          have HO := Lib.hid (HO2.out.kept hg)
          clear hA hg HB2 HO2
          obtain ⟨y, hy⟩ : ∃ y, ((preQ m).bind fun _ r => valP g r) = y := ⟨_, rfl⟩
          have HVY := Lib.hid hy
          have HQ2 : Hid (y0 = y.bind fun x u => (moreP 125 u).bind fun bb v => if bb = true then fldP g (acc ++ [.mk nm x]) v else .ok (acc ++ [.mk nm x]) v) := Lib.hid (by rw [HQ.out, fldQ_chain, HVY.out])
          have HVC : Hid (∀ W', Below T3.heap.size T3 W' → Calls Tryz.prog 12 #[.pointer (some ⟨rb, 0, none⟩)] W' (ValJ s rb W' y)) := Lib.hid (fun W' hW => by
            rw [← hy]
            exact valueE HVA2.out (HA3.out.ext hW) hs (fun u r e => by
              have := preQ_len HML.out e
              have := HGB.out
              omega))
          clear hy HQ
          obtain ⟨a0, a1, a2, a3, a4⟩ := va5 HO.out.rv
          go_upto_region 17 with (fail)
          clear a0 a1 a2 a3 a4
          refine GrowB.wp_region_growb (rB := some rb) 4 3 [TP.eq (.agg (vAr 5 0 eB (.slice none 0 0) (.slice av L.length cv))), TP.eq (.string nm), TP.eq (.pointer (some ⟨rb, 0, none⟩)), TPvJ (fromN (vb + 1)) s rb w y] [[], [], [], [2]] (by kernel_rfl) (by kernel_rfl) ?hst ⟨?o0e, ?o1e, ?o2e, ?o3e, trivial⟩ ?tle
          case hst =>
            intro j hj hjc W1 W2 u hg hu
            match j, hj, hjc with
            | 0, _, _ => exact hu
            | 1, _, _ => exact hu
            | 2, _, _ => exact hu
            | j + 3, hj, hjc => omega
          case o0e =>
            intro w' hb
            have hOg := HO.out.kept (show T3.grownBy w' (some rb) from hb)
            obtain ⟨a0, a1, a2, a3, a4⟩ := va5 hOg.rv
            show wpList _ _ _ _ _ _
            go_wp2
            exact ⟨rfl, Below.refl _ _, rfl⟩
          case o1e =>
            intro w' hb
            show wpList _ _ _ _ _ _
            go_wp2
            exact ⟨rfl, Below.refl _ _, rfl⟩
          case o2e =>
            intro w' hb
            show wpList _ _ _ _ _ _
            go_wp2
            exact ⟨rfl, Below.refl _ _, rfl⟩
          case o3e =>
            intro w' hb v2 hv2
            have hbw : Below T3.heap.size T3 w' := hb
            obtain rfl : v2 = _ := hv2
            show wpList _ _ _ _ _ _
            simp only [Grow.dstOf, List.getElem?_toArray, List.getElem?_cons_succ, List.getElem?_cons_zero, Option.bind_some, Act.put, List.setIfInBounds_toArray, List.set_cons_succ, List.set_cons_zero]
            go_wp2_with fail
            refine (HVC.out w' hbw).mono ?_
            rintro e wz ⟨v9, c9, rfl, hon, hvu, hA⟩
            have hO9 := HO.out.below hbw
            have hPV : (TPvJ (fromN (vb + 1)) s rb w y).p wz (.agg c9.toArray) := ⟨v9, c9, rfl, hon.mono (fun q _ hq => .inr (by have := hO9.rv.lt; omega)), hvu, hA.tr hO9.gr⟩
            have hG9 : w'.grownBy wz (some rb) := hA.gr
            clear hon hvu hA hO9
            go_wp2
            exact ⟨hPV, hG9, rfl⟩
          case tle =>
            intro w3 hbz u0 hu0 u1 hu1 u2 hu2 u3 hu3
            have hO3 := HO.out.kept hbz
            obtain rfl : u0 = _ := hu0
            obtain rfl : u1 = _ := hu1
            obtain rfl : u2 = _ := hu2
            obtain ⟨v9, c9, rfl, hon, hvu, hA⟩ := hu3
            have HAA := Lib.hid hA
            have HVU := Lib.hid hvu
            have HO3 := Lib.hid hO3
            have HON := Lib.hid hon
            have HPU := Lib.hid (putP_at 5 0 eB none 0 0 L av cv E nm v9 c9 w3 (pOn (fromN (vb + 1)) w3) hO3.fr.sl hO3.fr.all hon.now (on_field hon HNL.out) HLS.out HLL.out HNL.out)
            clear hA hvu hO3 hon hbz HVC HO
            show wpList _ _ _ _ _ _
            simp only [Act.put, List.setIfInBounds_toArray, List.set_cons_succ, List.set_cons_zero]
            go_wp2_with fail
            refine HPU.out.mono ?_
            rintro e w4 ⟨a5, q5, E5, rfl, hown, hb4⟩
            have HO4 := Lib.hid (HO3.out.below hb4)
            have HFR : Hid (FR (fromN (vb + 1)) w4 (putF nm v9 L) (.slice a5 (putF nm v9 L).length q5) E5) := Lib.hid (FR.ofQ hown hb4 (by have := HO3.out.rv.lt; omega))
            have HA4 : Hid (AftJ s rb w w4 y) := Lib.hid (HAA.out.ext hb4)
            clear hown hb4 HPU HAA HO3 HON
            obtain ⟨L2, hL2⟩ : ∃ L2, putF nm v9 L = L2 := ⟨_, rfl⟩
            have HL2 : Hid (L2 = putAll [] (acc ++ [.mk nm v9])) := Lib.hid (by rw [← hL2, ← HL.out, putAll_snoc])
            rw [hL2] at HFR ⊢
            clear hL2
            go_upto_region 18 with (refine wpList_store_row rfl _ _ _ rfl vb (vAr 5 0 eB (.slice none 0 0) (.slice a5 L2.length q5)) rfl rfl _ _ HO4.out.rv (v_inf5 _ _ _ _ _) rfl (v_all5 _ _ _ _ _ _ _ _ _) ?_)
            have HO5 := Lib.hid (HO4.out.turn HFR.out)
            have HA5 := Lib.hid (HA4.out.row (b := vb) (Nat.le_of_lt HO4.out.lt) (by have := HO4.out.lt; have := HO4.out.lrb; omega) (vAr 5 0 eB (.slice none 0 0) (.slice a5 L2.length q5)))
            clear HFR HO4 HA4
            generalize w4.setRow vb (vAr 5 0 eB (.slice none 0 0) (.slice a5 L2.length q5)) = w5 at *
            obtain ⟨z, hz⟩ : ∃ z, (y.bind fun _ u => moreP 125 u) = z := ⟨_, rfl⟩
            have HQ3 : Hid (y0 = z.bind fun bb v => if bb = true then fldP g (acc ++ [.mk nm v9]) v else .ok (acc ++ [.mk nm v9]) v) := Lib.hid (HQ2.out.trans (moreQ hz HVU.out))
            have hmo := moreE 125 (by decide) HA5.out hs
            rw [hz] at hmo
            have HMO : Hid (Calls Tryz.prog 46 #[.pointer (some ⟨rb, 0, none⟩), .int .u8 125] w5 fun e w' => MoreE s rb w y z e w' ∧ w5.grownBy w' (some rb)) := Lib.hid hmo
            have HZ := Lib.hid hz
            clear hmo hz HQ2 HA5
            go_wp2_with fail
            refine HMO.out.mono ?_
            cases z with
            | bad q er =>
              rintro e Z4 ⟨⟨rfl, a6, ha6, hR, hg⟩, hg2⟩
              have HXB : Hid (x = .bad q er) := Lib.hid (by rw [HXE.out, HQ3.out]; rfl)
              have HJZ := Lib.hid (HO5.out.kept hg2)
              have HAX : Hid (AftJ s rb w Z4 x) := Lib.hid (by rw [HXB.out]; exact ⟨a6, ha6, hR, hg⟩)
              have HVX : Hid (∀ u r, x = .ok u r → obj L2 = u) := Lib.hid (fun u r e => by rw [HXB.out] at e; cases e)
              clear hR hg hg2
              go_upto_region 19 with (fail)
              obtain ⟨d0, d1, d2, d3, d4⟩ := va5 HJZ.out.rv
              have HF : Hid (ValJ s rb w x (.returned (.agg (vAr 5 0 eB (.slice none 0 0) (.slice a5 L2.length q5)))) (Z4.setRow w.heap.size (vAr 5 0 eB (.slice none 0 0) (.slice a5 L2.length q5)))) := Lib.hid ⟨obj L2, _, rfl, ((oj_obj HJZ.out).keep (by rw [setRow_size]; exact Nat.le_refl _) (fun q _ hq => setRow_other _ _ _ _ (by omega))).mono (fun q _ hq => Nat.le_of_lt hq), HVX.out, HAX.out.row (Nat.le_refl _) (by have := HRB.out; omega) _⟩
              go_wp2_with (refine wpList_store_row rfl _ _ _ rfl w.heap.size (vAr 5 0 eB (.slice none 0 0) (.slice a5 L2.length q5)) rfl rfl _ _ HJZ.out.rr (v_inf5 _ _ _ _ _) rfl (v_all5 _ _ _ _ _ _ _ _ _) ?_)
              (try simp only [Exit.inBlock, Exit.then])
              refine bodyPost_ret (v := .agg (vAr 5 0 eB (.slice none 0 0) (.slice a5 L2.length q5))) (results_cell_row rfl _ _ _ _ _ _ _ rfl (HJZ.out.rr.row _) Tryz.underlying25 rfl (v_inf5 _ _ _ _ _)) rfl HF.out
            | ok bb t =>
              cases bb with
              | false =>
                rintro e Z4 ⟨⟨rfl, a6, ha6, hd6, hR, hg⟩, hg2⟩
                have HXO : Hid (x = .ok (obj L2) t) := Lib.hid (by rw [HXE.out, HQ3.out, HL2.out]; rfl)
                have HJZ := Lib.hid (HO5.out.kept hg2)
                have HAX : Hid (AftJ s rb w Z4 x) := Lib.hid (by rw [HXO.out]; exact ⟨a6, ha6, hd6, hR, hg⟩)
                have HVX : Hid (∀ u r, x = .ok u r → obj L2 = u) := Lib.hid (fun u r e => by rw [HXO.out] at e; cases e; rfl)
                clear hR hg hg2 hd6
                go_upto_region 19 with (fail)
                obtain ⟨d0, d1, d2, d3, d4⟩ := va5 HJZ.out.rv
                have HF : Hid (ValJ s rb w x (.returned (.agg (vAr 5 0 eB (.slice none 0 0) (.slice a5 L2.length q5)))) (Z4.setRow w.heap.size (vAr 5 0 eB (.slice none 0 0) (.slice a5 L2.length q5)))) := Lib.hid ⟨obj L2, _, rfl, ((oj_obj HJZ.out).keep (by rw [setRow_size]; exact Nat.le_refl _) (fun q _ hq => setRow_other _ _ _ _ (by omega))).mono (fun q _ hq => Nat.le_of_lt hq), HVX.out, HAX.out.row (Nat.le_refl _) (by have := HRB.out; omega) _⟩
                go_wp2_with (refine wpList_store_row rfl _ _ _ rfl w.heap.size (vAr 5 0 eB (.slice none 0 0) (.slice a5 L2.length q5)) rfl rfl _ _ HJZ.out.rr (v_inf5 _ _ _ _ _) rfl (v_all5 _ _ _ _ _ _ _ _ _) ?_)
                (try simp only [Exit.inBlock, Exit.then])
                refine bodyPost_ret (v := .agg (vAr 5 0 eB (.slice none 0 0) (.slice a5 L2.length q5))) (results_cell_row rfl _ _ _ _ _ _ _ rfl (HJZ.out.rr.row _) Tryz.underlying25 rfl (v_inf5 _ _ _ _ _)) rfl HF.out
              | true =>
                rintro e Z4 ⟨⟨rfl, a6, ha6, hlt6, hd6, hR, hg⟩, hg2⟩
                have HYO : Hid (∃ x' u', y = .ok x' u' ∧ (∃ u q', m = .ok u q')) := Lib.hid (by
                  have h9 := HZ.out
                  obtain ⟨x', u', e1, _⟩ := bind_ok h9
                  have h8 := HVY.out.trans e1
                  obtain ⟨_, r', e2, _⟩ := bind_ok h8
                  unfold preQ at e2
                  obtain ⟨_, _, e3, _⟩ := bind_ok e2
                  obtain ⟨_, _, e4, _⟩ := bind_ok e3
                  obtain ⟨u, q', e5, _⟩ := bind_ok e4
                  exact ⟨x', u', e1, u, q', e5⟩)
                have HQ6 : Hid (b + 3 ≤ a6) := Lib.hid (by
                  obtain ⟨x', u', e1, _⟩ := HYO.out
                  have h9 := hlt6 x' u' e1
                  have h8 := valQ_len HML.out (HVY.out.trans e1)
                  have := HBS.out
                  omega)
                have HEL : Hid (fldP g (acc ++ [.mk nm v9]) (skipW (dr s a6)) = y0) := Lib.hid (by rw [hd6, HQ3.out]; rfl)
                have HDN : Hid (DistF (acc ++ [.mk nm v9])) := Lib.hid (HDI.out.push (by
                  obtain ⟨_, _, _, u, q', e5⟩ := HYO.out
                  exact HNEW.out u q' e5))
                have HJ9 : Hid (OJ rb w vb Z4 (putAll [] (acc ++ [.mk nm v9])) (.slice a5 L2.length q5) E5) := Lib.hid (by rw [← HL2.out]; exact HO5.out.kept hg2)
                have HR9 := Lib.hid hR
                have HM6 := Lib.hid (jmeas hR)
                clear hR hg hg2 hd6 hlt6
                go_wp2_with fail
                go_roundw
                case rel => exact ⟨acc ++ [.mk nm v9], a6, g, .slice a5 L2.length q5, E5, ha6, Lib.hid (by rw [List.length_append, List.length_singleton]; have := HAL.out; have := HQ6.out; omega), Lib.hid (by have := HGB.out; have := HQ6.out; omega), Lib.hid (by have := HGF.out; omega), HDN, HEL, HJ9, HR9⟩
                case measure => rw [HM6.out, HMX.out]; have := HQ6.out; have := HBB.out; omega
      | ok tt q =>
        have hnt : tt = tl := HYV.out tt q rfl
        subst hnt
        have HTL : Hid (q.length + 1 ≤ s.size - b) := Lib.hid (by
          have h9 := textP_len HTY.out
          rw [dr_len HBS.out] at h9
          omega)
        obtain ⟨ab, hab, hdb, hRb, hgb⟩ := HA3.out
        obtain ⟨c0, c1, c2, c3⟩ := hRb.c
        cases hh : (lk acc nm).isSome with
        | true =>
          have HQ : Hid (y0 = fldQ g acc nm (.bad (dr s b) 7)) := Lib.hid (by rw [← HY.out, ← HNM.out]; exact fldQ_twice HTY.out (by rw [HNM.out]; exact hh))
          go_wp2_with fail
          refine (jfail_ok rb s ab b 7 X3 hRb).mono ?_
          rintro e X4 ⟨rfl, hR, hg⟩
          have HJ4 := Lib.hid (HJ3.out.kept hg)
          obtain ⟨m, hm⟩ : ∃ m : Res Unit, m = .bad (dr s b) 7 := ⟨_, rfl⟩
          have HA5 : Hid (AftJ s rb w X4 m) := Lib.hid (by rw [hm]; exact BadJ.at hR hab HBS.out (hgb.trans hg))
          rw [← hm] at HQ
          have HML : Hid (∀ (u : Unit) (q' : List UInt8), m = .ok u q' → q'.length + 1 ≤ s.size - b) := Lib.hid (fun u q' e => by rw [hm] at e; cases e)
          have HNEW : Hid (∀ u q', m = .ok u q' → (lk acc nm).isSome = false) := Lib.hid (fun u q' e => by rw [hm] at e; cases e)
          clear hm HA3 hab hRb HTY HYV hR hg hdb hgb c0 c1 c2 c3 hh HJ3 HTL
          go_upto_region 14 with (fail)
          have HBL := Lib.hid (blanksE HA5.out hs)
          go_wp2_with fail
          refine HBL.out.mono ?_
          rintro e T1 ⟨rfl, hA, hg⟩
          have HB1 := Lib.hid (mustE 58 (by decide) hA hs)
          have HO1 := Lib.hid (HJ4.out.kept hg)
          clear hA hg HBL HA5
          go_wp2_with fail
          refine HB1.out.mono ?_
          rintro e T2 ⟨rfl, hA, hg⟩
          have HB2 := Lib.hid (blanksE hA hs)
          have HO2 := Lib.hid (HO1.out.kept hg)
          clear hA hg HB1 HO1
          go_wp2_with fail
          refine HB2.out.mono ?_
          rintro e T3 ⟨rfl, hA, hg⟩
          have HA3 : Hid (AftJ s rb w T3 (preQ m)) := Lib.hid hA
          have HO := Lib.hid (HO2.out.kept hg)
          clear hA hg HB2 HO2
          obtain ⟨y, hy⟩ : ∃ y, ((preQ m).bind fun _ r => valP g r) = y := ⟨_, rfl⟩
          have HVY := Lib.hid hy
          have HQ2 : Hid (y0 = y.bind fun x u => (moreP 125 u).bind fun bb v => if bb = true then fldP g (acc ++ [.mk nm x]) v else .ok (acc ++ [.mk nm x]) v) := Lib.hid (by rw [HQ.out, fldQ_chain, HVY.out])
          have HVC : Hid (∀ W', Below T3.heap.size T3 W' → Calls Tryz.prog 12 #[.pointer (some ⟨rb, 0, none⟩)] W' (ValJ s rb W' y)) := Lib.hid (fun W' hW => by
            rw [← hy]
            exact valueE HVA2.out (HA3.out.ext hW) hs (fun u r e => by
              have := preQ_len HML.out e
              have := HGB.out
              omega))
          clear hy HQ
          obtain ⟨a0, a1, a2, a3, a4⟩ := va5 HO.out.rv
          go_upto_region 17 with (fail)
          clear a0 a1 a2 a3 a4
          refine GrowB.wp_region_growb (rB := some rb) 4 3 [TP.eq (.agg (vAr 5 0 eB (.slice none 0 0) (.slice av L.length cv))), TP.eq (.string nm), TP.eq (.pointer (some ⟨rb, 0, none⟩)), TPvJ (fromN (vb + 1)) s rb w y] [[], [], [], [2]] (by kernel_rfl) (by kernel_rfl) ?hst ⟨?o0e, ?o1e, ?o2e, ?o3e, trivial⟩ ?tle
          case hst =>
            intro j hj hjc W1 W2 u hg hu
            match j, hj, hjc with
            | 0, _, _ => exact hu
            | 1, _, _ => exact hu
            | 2, _, _ => exact hu
            | j + 3, hj, hjc => omega
          case o0e =>
            intro w' hb
            have hOg := HO.out.kept (show T3.grownBy w' (some rb) from hb)
            obtain ⟨a0, a1, a2, a3, a4⟩ := va5 hOg.rv
            show wpList _ _ _ _ _ _
            go_wp2
            exact ⟨rfl, Below.refl _ _, rfl⟩
          case o1e =>
            intro w' hb
            show wpList _ _ _ _ _ _
            go_wp2
            exact ⟨rfl, Below.refl _ _, rfl⟩
          case o2e =>
            intro w' hb
            show wpList _ _ _ _ _ _
            go_wp2
            exact ⟨rfl, Below.refl _ _, rfl⟩
          case o3e =>
            intro w' hb v2 hv2
            have hbw : Below T3.heap.size T3 w' := hb
            obtain rfl : v2 = _ := hv2
            show wpList _ _ _ _ _ _
            simp only [Grow.dstOf, List.getElem?_toArray, List.getElem?_cons_succ, List.getElem?_cons_zero, Option.bind_some, Act.put, List.setIfInBounds_toArray, List.set_cons_succ, List.set_cons_zero]
            go_wp2_with fail
            refine (HVC.out w' hbw).mono ?_
            rintro e wz ⟨v9, c9, rfl, hon, hvu, hA⟩
            have hO9 := HO.out.below hbw
            have hPV : (TPvJ (fromN (vb + 1)) s rb w y).p wz (.agg c9.toArray) := ⟨v9, c9, rfl, hon.mono (fun q _ hq => .inr (by have := hO9.rv.lt; omega)), hvu, hA.tr hO9.gr⟩
            have hG9 : w'.grownBy wz (some rb) := hA.gr
            clear hon hvu hA hO9
            go_wp2
            exact ⟨hPV, hG9, rfl⟩
          case tle =>
            intro w3 hbz u0 hu0 u1 hu1 u2 hu2 u3 hu3
            have hO3 := HO.out.kept hbz
            obtain rfl : u0 = _ := hu0
            obtain rfl : u1 = _ := hu1
            obtain rfl : u2 = _ := hu2
            obtain ⟨v9, c9, rfl, hon, hvu, hA⟩ := hu3
            have HAA := Lib.hid hA
            have HVU := Lib.hid hvu
            have HO3 := Lib.hid hO3
            have HON := Lib.hid hon
            have HPU := Lib.hid (putP_at 5 0 eB none 0 0 L av cv E nm v9 c9 w3 (pOn (fromN (vb + 1)) w3) hO3.fr.sl hO3.fr.all hon.now (on_field hon HNL.out) HLS.out HLL.out HNL.out)
            clear hA hvu hO3 hon hbz HVC HO
            show wpList _ _ _ _ _ _
            simp only [Act.put, List.setIfInBounds_toArray, List.set_cons_succ, List.set_cons_zero]
            go_wp2_with fail
            refine HPU.out.mono ?_
            rintro e w4 ⟨a5, q5, E5, rfl, hown, hb4⟩
            have HO4 := Lib.hid (HO3.out.below hb4)
            have HFR : Hid (FR (fromN (vb + 1)) w4 (putF nm v9 L) (.slice a5 (putF nm v9 L).length q5) E5) := Lib.hid (FR.ofQ hown hb4 (by have := HO3.out.rv.lt; omega))
            have HA4 : Hid (AftJ s rb w w4 y) := Lib.hid (HAA.out.ext hb4)
            clear hown hb4 HPU HAA HO3 HON
            obtain ⟨L2, hL2⟩ : ∃ L2, putF nm v9 L = L2 := ⟨_, rfl⟩
            have HL2 : Hid (L2 = putAll [] (acc ++ [.mk nm v9])) := Lib.hid (by rw [← hL2, ← HL.out, putAll_snoc])
            rw [hL2] at HFR ⊢
            clear hL2
            go_upto_region 18 with (refine wpList_store_row rfl _ _ _ rfl vb (vAr 5 0 eB (.slice none 0 0) (.slice a5 L2.length q5)) rfl rfl _ _ HO4.out.rv (v_inf5 _ _ _ _ _) rfl (v_all5 _ _ _ _ _ _ _ _ _) ?_)
            have HO5 := Lib.hid (HO4.out.turn HFR.out)
            have HA5 := Lib.hid (HA4.out.row (b := vb) (Nat.le_of_lt HO4.out.lt) (by have := HO4.out.lt; have := HO4.out.lrb; omega) (vAr 5 0 eB (.slice none 0 0) (.slice a5 L2.length q5)))
            clear HFR HO4 HA4
            generalize w4.setRow vb (vAr 5 0 eB (.slice none 0 0) (.slice a5 L2.length q5)) = w5 at *
            obtain ⟨z, hz⟩ : ∃ z, (y.bind fun _ u => moreP 125 u) = z := ⟨_, rfl⟩
            have HQ3 : Hid (y0 = z.bind fun bb v => if bb = true then fldP g (acc ++ [.mk nm v9]) v else .ok (acc ++ [.mk nm v9]) v) := Lib.hid (HQ2.out.trans (moreQ hz HVU.out))
            have hmo := moreE 125 (by decide) HA5.out hs
            rw [hz] at hmo
            have HMO : Hid (Calls Tryz.prog 46 #[.pointer (some ⟨rb, 0, none⟩), .int .u8 125] w5 fun e w' => MoreE s rb w y z e w' ∧ w5.grownBy w' (some rb)) := Lib.hid hmo
            have HZ := Lib.hid hz
            clear hmo hz HQ2 HA5
            go_wp2_with fail
            refine HMO.out.mono ?_
            cases z with
            | bad q er =>
              rintro e Z4 ⟨⟨rfl, a6, ha6, hR, hg⟩, hg2⟩
              have HXB : Hid (x = .bad q er) := Lib.hid (by rw [HXE.out, HQ3.out]; rfl)
              have HJZ := Lib.hid (HO5.out.kept hg2)
              have HAX : Hid (AftJ s rb w Z4 x) := Lib.hid (by rw [HXB.out]; exact ⟨a6, ha6, hR, hg⟩)
              have HVX : Hid (∀ u r, x = .ok u r → obj L2 = u) := Lib.hid (fun u r e => by rw [HXB.out] at e; cases e)
              clear hR hg hg2
              go_upto_region 19 with (fail)
              obtain ⟨d0, d1, d2, d3, d4⟩ := va5 HJZ.out.rv
              have HF : Hid (ValJ s rb w x (.returned (.agg (vAr 5 0 eB (.slice none 0 0) (.slice a5 L2.length q5)))) (Z4.setRow w.heap.size (vAr 5 0 eB (.slice none 0 0) (.slice a5 L2.length q5)))) := Lib.hid ⟨obj L2, _, rfl, ((oj_obj HJZ.out).keep (by rw [setRow_size]; exact Nat.le_refl _) (fun q _ hq => setRow_other _ _ _ _ (by omega))).mono (fun q _ hq => Nat.le_of_lt hq), HVX.out, HAX.out.row (Nat.le_refl _) (by have := HRB.out; omega) _⟩
              go_wp2_with (refine wpList_store_row rfl _ _ _ rfl w.heap.size (vAr 5 0 eB (.slice none 0 0) (.slice a5 L2.length q5)) rfl rfl _ _ HJZ.out.rr (v_inf5 _ _ _ _ _) rfl (v_all5 _ _ _ _ _ _ _ _ _) ?_)
              (try simp only [Exit.inBlock, Exit.then])
              refine bodyPost_ret (v := .agg (vAr 5 0 eB (.slice none 0 0) (.slice a5 L2.length q5))) (results_cell_row rfl _ _ _ _ _ _ _ rfl (HJZ.out.rr.row _) Tryz.underlying25 rfl (v_inf5 _ _ _ _ _)) rfl HF.out
            | ok bb t =>
              cases bb with
              | false =>
                rintro e Z4 ⟨⟨rfl, a6, ha6, hd6, hR, hg⟩, hg2⟩
                have HXO : Hid (x = .ok (obj L2) t) := Lib.hid (by rw [HXE.out, HQ3.out, HL2.out]; rfl)
                have HJZ := Lib.hid (HO5.out.kept hg2)
                have HAX : Hid (AftJ s rb w Z4 x) := Lib.hid (by rw [HXO.out]; exact ⟨a6, ha6, hd6, hR, hg⟩)
                have HVX : Hid (∀ u r, x = .ok u r → obj L2 = u) := Lib.hid (fun u r e => by rw [HXO.out] at e; cases e; rfl)
                clear hR hg hg2 hd6
                go_upto_region 19 with (fail)
                obtain ⟨d0, d1, d2, d3, d4⟩ := va5 HJZ.out.rv
                have HF : Hid (ValJ s rb w x (.returned (.agg (vAr 5 0 eB (.slice none 0 0) (.slice a5 L2.length q5)))) (Z4.setRow w.heap.size (vAr 5 0 eB (.slice none 0 0) (.slice a5 L2.length q5)))) := Lib.hid ⟨obj L2, _, rfl, ((oj_obj HJZ.out).keep (by rw [setRow_size]; exact Nat.le_refl _) (fun q _ hq => setRow_other _ _ _ _ (by omega))).mono (fun q _ hq => Nat.le_of_lt hq), HVX.out, HAX.out.row (Nat.le_refl _) (by have := HRB.out; omega) _⟩
                go_wp2_with (refine wpList_store_row rfl _ _ _ rfl w.heap.size (vAr 5 0 eB (.slice none 0 0) (.slice a5 L2.length q5)) rfl rfl _ _ HJZ.out.rr (v_inf5 _ _ _ _ _) rfl (v_all5 _ _ _ _ _ _ _ _ _) ?_)
                (try simp only [Exit.inBlock, Exit.then])
                refine bodyPost_ret (v := .agg (vAr 5 0 eB (.slice none 0 0) (.slice a5 L2.length q5))) (results_cell_row rfl _ _ _ _ _ _ _ rfl (HJZ.out.rr.row _) Tryz.underlying25 rfl (v_inf5 _ _ _ _ _)) rfl HF.out
              | true =>
                rintro e Z4 ⟨⟨rfl, a6, ha6, hlt6, hd6, hR, hg⟩, hg2⟩
                have HYO : Hid (∃ x' u', y = .ok x' u' ∧ (∃ u q', m = .ok u q')) := Lib.hid (by
                  have h9 := HZ.out
                  obtain ⟨x', u', e1, _⟩ := bind_ok h9
                  have h8 := HVY.out.trans e1
                  obtain ⟨_, r', e2, _⟩ := bind_ok h8
                  unfold preQ at e2
                  obtain ⟨_, _, e3, _⟩ := bind_ok e2
                  obtain ⟨_, _, e4, _⟩ := bind_ok e3
                  obtain ⟨u, q', e5, _⟩ := bind_ok e4
                  exact ⟨x', u', e1, u, q', e5⟩)
                have HQ6 : Hid (b + 3 ≤ a6) := Lib.hid (by
                  obtain ⟨x', u', e1, _⟩ := HYO.out
                  have h9 := hlt6 x' u' e1
                  have h8 := valQ_len HML.out (HVY.out.trans e1)
                  have := HBS.out
                  omega)
                have HEL : Hid (fldP g (acc ++ [.mk nm v9]) (skipW (dr s a6)) = y0) := Lib.hid (by rw [hd6, HQ3.out]; rfl)
                have HDN : Hid (DistF (acc ++ [.mk nm v9])) := Lib.hid (HDI.out.push (by
                  obtain ⟨_, _, _, u, q', e5⟩ := HYO.out
                  exact HNEW.out u q' e5))
                have HJ9 : Hid (OJ rb w vb Z4 (putAll [] (acc ++ [.mk nm v9])) (.slice a5 L2.length q5) E5) := Lib.hid (by rw [← HL2.out]; exact HO5.out.kept hg2)
                have HR9 := Lib.hid hR
                have HM6 := Lib.hid (jmeas hR)
                clear hR hg hg2 hd6 hlt6
                go_wp2_with fail
                go_roundw
                case rel => exact ⟨acc ++ [.mk nm v9], a6, g, .slice a5 L2.length q5, E5, ha6, Lib.hid (by rw [List.length_append, List.length_singleton]; have := HAL.out; have := HQ6.out; omega), Lib.hid (by have := HGB.out; have := HQ6.out; omega), Lib.hid (by have := HGF.out; omega), HDN, HEL, HJ9, HR9⟩
                case measure => rw [HM6.out, HMX.out]; have := HQ6.out; have := HBB.out; omega
        | false =>
          have HQ : Hid (y0 = fldQ g acc nm (.ok () q)) := Lib.hid (by rw [← HY.out, ← HNM.out]; exact fldQ_ok HTY.out (by rw [HNM.out]; exact hh))
          obtain ⟨m, hm⟩ : ∃ m : Res Unit, m = .ok () q := ⟨_, rfl⟩
          have HA5 : Hid (AftJ s rb w X3 m) := Lib.hid (by rw [hm]; exact HA3.out)
          rw [← hm] at HQ
          have HML : Hid (∀ (u : Unit) (q' : List UInt8), m = .ok u q' → q'.length + 1 ≤ s.size - b) := Lib.hid (fun u q' e => by rw [hm] at e; cases e; exact HTL.out)
          have HNEW : Hid (∀ u q', m = .ok u q' → (lk acc nm).isSome = false) := Lib.hid (fun _ _ _ => hh)
          go_upto_region 14 with (fail)
          clear hm HA3 hab hRb HTY HYV hdb hgb c0 c1 c2 c3 hh HTL
          have HBL := Lib.hid (blanksE HA5.out hs)
          go_wp2_with fail
          refine HBL.out.mono ?_
          rintro e T1 ⟨rfl, hA, hg⟩
          have HB1 := Lib.hid (mustE 58 (by decide) hA hs)
          have HO1 := Lib.hid (HJ3.out.kept hg)
          clear hA hg HBL HA5
          go_wp2_with fail
          refine HB1.out.mono ?_
          rintro e T2 ⟨rfl, hA, hg⟩
          have HB2 := Lib.hid (blanksE hA hs)
          have HO2 := Lib.hid (HO1.out.kept hg)
          clear hA hg HB1 HO1
          go_wp2_with fail
          refine HB2.out.mono ?_
          rintro e T3 ⟨rfl, hA, hg⟩
          have HA3 : Hid (AftJ s rb w T3 (preQ m)) := Lib.hid hA
          have HO := Lib.hid (HO2.out.kept hg)
          clear hA hg HB2 HO2
          obtain ⟨y, hy⟩ : ∃ y, ((preQ m).bind fun _ r => valP g r) = y := ⟨_, rfl⟩
          have HVY := Lib.hid hy
          have HQ2 : Hid (y0 = y.bind fun x u => (moreP 125 u).bind fun bb v => if bb = true then fldP g (acc ++ [.mk nm x]) v else .ok (acc ++ [.mk nm x]) v) := Lib.hid (by rw [HQ.out, fldQ_chain, HVY.out])
          have HVC : Hid (∀ W', Below T3.heap.size T3 W' → Calls Tryz.prog 12 #[.pointer (some ⟨rb, 0, none⟩)] W' (ValJ s rb W' y)) := Lib.hid (fun W' hW => by
            rw [← hy]
            exact valueE HVA2.out (HA3.out.ext hW) hs (fun u r e => by
              have := preQ_len HML.out e
              have := HGB.out
              omega))
          clear hy HQ
          obtain ⟨a0, a1, a2, a3, a4⟩ := va5 HO.out.rv
          go_upto_region 17 with (fail)
          clear a0 a1 a2 a3 a4
          refine GrowB.wp_region_growb (rB := some rb) 4 3 [TP.eq (.agg (vAr 5 0 eB (.slice none 0 0) (.slice av L.length cv))), TP.eq (.string nm), TP.eq (.pointer (some ⟨rb, 0, none⟩)), TPvJ (fromN (vb + 1)) s rb w y] [[], [], [], [2]] (by kernel_rfl) (by kernel_rfl) ?hst ⟨?o0e, ?o1e, ?o2e, ?o3e, trivial⟩ ?tle
          case hst =>
            intro j hj hjc W1 W2 u hg hu
            match j, hj, hjc with
            | 0, _, _ => exact hu
            | 1, _, _ => exact hu
            | 2, _, _ => exact hu
            | j + 3, hj, hjc => omega
          case o0e =>
            intro w' hb
            have hOg := HO.out.kept (show T3.grownBy w' (some rb) from hb)
            obtain ⟨a0, a1, a2, a3, a4⟩ := va5 hOg.rv
            show wpList _ _ _ _ _ _
            go_wp2
            exact ⟨rfl, Below.refl _ _, rfl⟩
          case o1e =>
            intro w' hb
            show wpList _ _ _ _ _ _
            go_wp2
            exact ⟨rfl, Below.refl _ _, rfl⟩
          case o2e =>
            intro w' hb
            show wpList _ _ _ _ _ _
            go_wp2
            exact ⟨rfl, Below.refl _ _, rfl⟩
          case o3e =>
            intro w' hb v2 hv2
            have hbw : Below T3.heap.size T3 w' := hb
            obtain rfl : v2 = _ := hv2
            show wpList _ _ _ _ _ _
            simp only [Grow.dstOf, List.getElem?_toArray, List.getElem?_cons_succ, List.getElem?_cons_zero, Option.bind_some, Act.put, List.setIfInBounds_toArray, List.set_cons_succ, List.set_cons_zero]
            go_wp2_with fail
            refine (HVC.out w' hbw).mono ?_
            rintro e wz ⟨v9, c9, rfl, hon, hvu, hA⟩
            have hO9 := HO.out.below hbw
            have hPV : (TPvJ (fromN (vb + 1)) s rb w y).p wz (.agg c9.toArray) := ⟨v9, c9, rfl, hon.mono (fun q _ hq => .inr (by have := hO9.rv.lt; omega)), hvu, hA.tr hO9.gr⟩
            have hG9 : w'.grownBy wz (some rb) := hA.gr
            clear hon hvu hA hO9
            go_wp2
            exact ⟨hPV, hG9, rfl⟩
          case tle =>
            intro w3 hbz u0 hu0 u1 hu1 u2 hu2 u3 hu3
            have hO3 := HO.out.kept hbz
            obtain rfl : u0 = _ := hu0
            obtain rfl : u1 = _ := hu1
            obtain rfl : u2 = _ := hu2
            obtain ⟨v9, c9, rfl, hon, hvu, hA⟩ := hu3
            have HAA := Lib.hid hA
            have HVU := Lib.hid hvu
            have HO3 := Lib.hid hO3
            have HON := Lib.hid hon
            have HPU := Lib.hid (putP_at 5 0 eB none 0 0 L av cv E nm v9 c9 w3 (pOn (fromN (vb + 1)) w3) hO3.fr.sl hO3.fr.all hon.now (on_field hon HNL.out) HLS.out HLL.out HNL.out)
            clear hA hvu hO3 hon hbz HVC HO
            show wpList _ _ _ _ _ _
            simp only [Act.put, List.setIfInBounds_toArray, List.set_cons_succ, List.set_cons_zero]
            go_wp2_with fail
            refine HPU.out.mono ?_
            rintro e w4 ⟨a5, q5, E5, rfl, hown, hb4⟩
            have HO4 := Lib.hid (HO3.out.below hb4)
            have HFR : Hid (FR (fromN (vb + 1)) w4 (putF nm v9 L) (.slice a5 (putF nm v9 L).length q5) E5) := Lib.hid (FR.ofQ hown hb4 (by have := HO3.out.rv.lt; omega))
            have HA4 : Hid (AftJ s rb w w4 y) := Lib.hid (HAA.out.ext hb4)
            clear hown hb4 HPU HAA HO3 HON
            obtain ⟨L2, hL2⟩ : ∃ L2, putF nm v9 L = L2 := ⟨_, rfl⟩
            have HL2 : Hid (L2 = putAll [] (acc ++ [.mk nm v9])) := Lib.hid (by rw [← hL2, ← HL.out, putAll_snoc])
            rw [hL2] at HFR ⊢
            clear hL2
            go_upto_region 18 with (refine wpList_store_row rfl _ _ _ rfl vb (vAr 5 0 eB (.slice none 0 0) (.slice a5 L2.length q5)) rfl rfl _ _ HO4.out.rv (v_inf5 _ _ _ _ _) rfl (v_all5 _ _ _ _ _ _ _ _ _) ?_)
            have HO5 := Lib.hid (HO4.out.turn HFR.out)
            have HA5 := Lib.hid (HA4.out.row (b := vb) (Nat.le_of_lt HO4.out.lt) (by have := HO4.out.lt; have := HO4.out.lrb; omega) (vAr 5 0 eB (.slice none 0 0) (.slice a5 L2.length q5)))
            clear HFR HO4 HA4
            generalize w4.setRow vb (vAr 5 0 eB (.slice none 0 0) (.slice a5 L2.length q5)) = w5 at *
            obtain ⟨z, hz⟩ : ∃ z, (y.bind fun _ u => moreP 125 u) = z := ⟨_, rfl⟩
            have HQ3 : Hid (y0 = z.bind fun bb v => if bb = true then fldP g (acc ++ [.mk nm v9]) v else .ok (acc ++ [.mk nm v9]) v) := Lib.hid (HQ2.out.trans (moreQ hz HVU.out))
            have hmo := moreE 125 (by decide) HA5.out hs
            rw [hz] at hmo
            have HMO : Hid (Calls Tryz.prog 46 #[.pointer (some ⟨rb, 0, none⟩), .int .u8 125] w5 fun e w' => MoreE s rb w y z e w' ∧ w5.grownBy w' (some rb)) := Lib.hid hmo
            have HZ := Lib.hid hz
            clear hmo hz HQ2 HA5
            go_wp2_with fail
            refine HMO.out.mono ?_
            cases z with
            | bad q er =>
              rintro e Z4 ⟨⟨rfl, a6, ha6, hR, hg⟩, hg2⟩
              have HXB : Hid (x = .bad q er) := Lib.hid (by rw [HXE.out, HQ3.out]; rfl)
              have HJZ := Lib.hid (HO5.out.kept hg2)
              have HAX : Hid (AftJ s rb w Z4 x) := Lib.hid (by rw [HXB.out]; exact ⟨a6, ha6, hR, hg⟩)
              have HVX : Hid (∀ u r, x = .ok u r → obj L2 = u) := Lib.hid (fun u r e => by rw [HXB.out] at e; cases e)
              clear hR hg hg2
              go_upto_region 19 with (fail)
              obtain ⟨d0, d1, d2, d3, d4⟩ := va5 HJZ.out.rv
              have HF : Hid (ValJ s rb w x (.returned (.agg (vAr 5 0 eB (.slice none 0 0) (.slice a5 L2.length q5)))) (Z4.setRow w.heap.size (vAr 5 0 eB (.slice none 0 0) (.slice a5 L2.length q5)))) := Lib.hid ⟨obj L2, _, rfl, ((oj_obj HJZ.out).keep (by rw [setRow_size]; exact Nat.le_refl _) (fun q _ hq => setRow_other _ _ _ _ (by omega))).mono (fun q _ hq => Nat.le_of_lt hq), HVX.out, HAX.out.row (Nat.le_refl _) (by have := HRB.out; omega) _⟩
              go_wp2_with (refine wpList_store_row rfl _ _ _ rfl w.heap.size (vAr 5 0 eB (.slice none 0 0) (.slice a5 L2.length q5)) rfl rfl _ _ HJZ.out.rr (v_inf5 _ _ _ _ _) rfl (v_all5 _ _ _ _ _ _ _ _ _) ?_)
              (try simp only [Exit.inBlock, Exit.then])
              refine bodyPost_ret (v := .agg (vAr 5 0 eB (.slice none 0 0) (.slice a5 L2.length q5))) (results_cell_row rfl _ _ _ _ _ _ _ rfl (HJZ.out.rr.row _) Tryz.underlying25 rfl (v_inf5 _ _ _ _ _)) rfl HF.out
            | ok bb t =>
              cases bb with
              | false =>
                rintro e Z4 ⟨⟨rfl, a6, ha6, hd6, hR, hg⟩, hg2⟩
                have HXO : Hid (x = .ok (obj L2) t) := Lib.hid (by rw [HXE.out, HQ3.out, HL2.out]; rfl)
                have HJZ := Lib.hid (HO5.out.kept hg2)
                have HAX : Hid (AftJ s rb w Z4 x) := Lib.hid (by rw [HXO.out]; exact ⟨a6, ha6, hd6, hR, hg⟩)
                have HVX : Hid (∀ u r, x = .ok u r → obj L2 = u) := Lib.hid (fun u r e => by rw [HXO.out] at e; cases e; rfl)
                clear hR hg hg2 hd6
                go_upto_region 19 with (fail)
                obtain ⟨d0, d1, d2, d3, d4⟩ := va5 HJZ.out.rv
                have HF : Hid (ValJ s rb w x (.returned (.agg (vAr 5 0 eB (.slice none 0 0) (.slice a5 L2.length q5)))) (Z4.setRow w.heap.size (vAr 5 0 eB (.slice none 0 0) (.slice a5 L2.length q5)))) := Lib.hid ⟨obj L2, _, rfl, ((oj_obj HJZ.out).keep (by rw [setRow_size]; exact Nat.le_refl _) (fun q _ hq => setRow_other _ _ _ _ (by omega))).mono (fun q _ hq => Nat.le_of_lt hq), HVX.out, HAX.out.row (Nat.le_refl _) (by have := HRB.out; omega) _⟩
                go_wp2_with (refine wpList_store_row rfl _ _ _ rfl w.heap.size (vAr 5 0 eB (.slice none 0 0) (.slice a5 L2.length q5)) rfl rfl _ _ HJZ.out.rr (v_inf5 _ _ _ _ _) rfl (v_all5 _ _ _ _ _ _ _ _ _) ?_)
                (try simp only [Exit.inBlock, Exit.then])
                refine bodyPost_ret (v := .agg (vAr 5 0 eB (.slice none 0 0) (.slice a5 L2.length q5))) (results_cell_row rfl _ _ _ _ _ _ _ rfl (HJZ.out.rr.row _) Tryz.underlying25 rfl (v_inf5 _ _ _ _ _)) rfl HF.out
              | true =>
                rintro e Z4 ⟨⟨rfl, a6, ha6, hlt6, hd6, hR, hg⟩, hg2⟩
                have HYO : Hid (∃ x' u', y = .ok x' u' ∧ (∃ u q', m = .ok u q')) := Lib.hid (by
                  have h9 := HZ.out
                  obtain ⟨x', u', e1, _⟩ := bind_ok h9
                  have h8 := HVY.out.trans e1
                  obtain ⟨_, r', e2, _⟩ := bind_ok h8
                  unfold preQ at e2
                  obtain ⟨_, _, e3, _⟩ := bind_ok e2
                  obtain ⟨_, _, e4, _⟩ := bind_ok e3
                  obtain ⟨u, q', e5, _⟩ := bind_ok e4
                  exact ⟨x', u', e1, u, q', e5⟩)
                have HQ6 : Hid (b + 3 ≤ a6) := Lib.hid (by
                  obtain ⟨x', u', e1, _⟩ := HYO.out
                  have h9 := hlt6 x' u' e1
                  have h8 := valQ_len HML.out (HVY.out.trans e1)
                  have := HBS.out
                  omega)
                have HEL : Hid (fldP g (acc ++ [.mk nm v9]) (skipW (dr s a6)) = y0) := Lib.hid (by rw [hd6, HQ3.out]; rfl)
                have HDN : Hid (DistF (acc ++ [.mk nm v9])) := Lib.hid (HDI.out.push (by
                  obtain ⟨_, _, _, u, q', e5⟩ := HYO.out
                  exact HNEW.out u q' e5))
                have HJ9 : Hid (OJ rb w vb Z4 (putAll [] (acc ++ [.mk nm v9])) (.slice a5 L2.length q5) E5) := Lib.hid (by rw [← HL2.out]; exact HO5.out.kept hg2)
                have HR9 := Lib.hid hR
                have HM6 := Lib.hid (jmeas hR)
                clear hR hg hg2 hd6 hlt6
                go_wp2_with fail
                go_roundw
                case rel => exact ⟨acc ++ [.mk nm v9], a6, g, .slice a5 L2.length q5, E5, ha6, Lib.hid (by rw [List.length_append, List.length_singleton]; have := HAL.out; have := HQ6.out; omega), Lib.hid (by have := HGB.out; have := HQ6.out; omega), Lib.hid (by have := HGF.out; omega), HDN, HEL, HJ9, HR9⟩
                case measure => rw [HM6.out, HMX.out]; have := HQ6.out; have := HBB.out; omega
end Fd
end Go.Proofs.YtbhcfmdogdaodaaGreatDoor
