/- Value of the reference's reader. Printed by gen_rjv.py. -/
import Derived.Test.YtbhcfmdogdaodaaGreatDoorRz25
import Derived.Test.YtbhcfmdogdaodaaGreatDoorRz29
import Derived.Test.YtbhcfmdogdaodaaGreatDoorRz30
import Derived.Test.YtbhcfmdogdaodaaGreatDoorRz19
namespace Go.Proofs.YtbhcfmdogdaodaaGreatDoor
open Go.RowKit
namespace Fd
open _root_.Go.Proofs.YtbhcfmdogdaodaaGreatDoor.Nm
open _root_.Go.Proofs.YtbhcfmdogdaodaaGreatDoor.Nt (RH RH.cell RH.box RH.lt RH.new RH.ext RH.fre RH.set RH.other)
open _root_.Go.Proofs.YtbhcfmdogdaodaaGreatDoor.Nt (RH.row RH.row_other RH.set_other)
open _root_.Go.Proofs.YtbhcfmdogdaodaaGreatDoor.Rw (All2 All2.get All2.length All2.mono All2.append Fresh fresh_own Kept wp_stored)
open _root_.Go.Proofs.YtbhcfmdogdaodaaGreatDoor.Tx (stB)
theorem wz_null : ∀ (j : Nat) (h : j < (⟨#[110, 117, 108, 108]⟩ : ByteArray).size), (⟨#[110, 117, 108, 108]⟩ : ByteArray)[j] ≠ 0 := fun j h => by
  have k : ∀ i : Fin 4, (⟨#[110, 117, 108, 108]⟩ : ByteArray)[i.val]'(i.isLt) ≠ 0 := by decide +kernel
  exact k ⟨j, h⟩
theorem wz_true : ∀ (j : Nat) (h : j < (⟨#[116, 114, 117, 101]⟩ : ByteArray).size), (⟨#[116, 114, 117, 101]⟩ : ByteArray)[j] ≠ 0 := fun j h => by
  have k : ∀ i : Fin 4, (⟨#[116, 114, 117, 101]⟩ : ByteArray)[i.val]'(i.isLt) ≠ 0 := by decide +kernel
  exact k ⟨j, h⟩
theorem wz_false : ∀ (j : Nat) (h : j < (⟨#[102, 97, 108, 115, 101]⟩ : ByteArray).size), (⟨#[102, 97, 108, 115, 101]⟩ : ByteArray)[j] ≠ 0 := fun j h => by
  have k : ∀ i : Fin 5, (⟨#[102, 97, 108, 115, 101]⟩ : ByteArray)[i.val]'(i.isLt) ≠ 0 := by decide +kernel
  exact k ⟨j, h⟩
set_option maxRecDepth 100000 in
set_option maxHeartbeats 8000000 in
theorem jval_step (s : ByteArray) (rb : Nat) (g : Nat) (hs2 : s.size ≤ 25000) (HI : ∀ k, k < g + 1 → ValJAt s rb k) : ValJAt s rb (g + 1) := by
  intro a w h ha hf
  have hs : s.size ≤ 1000000 := by omega
  have HS2 := Lib.hid hs2
  have HR := Lib.hid h
  have HVA := Lib.hid HI
  have HRB : Hid (rb < w.heap.size) := Lib.hid h.lt
  obtain ⟨x, hx⟩ : ∃ x, valP (g + 1) (dr s a) = x := ⟨_, rfl⟩
  have HX := Lib.hid hx
  have HA := Lib.hid ha
  have HF := Lib.hid hf
  have hai : (a : Int) ≤ 100000 := by omega
  rw [hx]
  clear h hx ha hf HI
  go_enter Tryz.func12, Tryz.ntmps12
  go_upto_region 1 with (fail)
  refine Tx.wp_vr1 fun W hbW hR1 => ?_
  have HT0 := Lib.hid hR1
  have HR0 := Lib.hid (HR.out.ext hbW)
  have HG0 := Lib.hid (gr_below hbW (some rb))
  have HTB : Hid (some w.heap.size ≠ some rb) := Lib.hid (by have := HRB.out; simp; omega)
  clear hR1 hbW HR
  go_wp2_with fail
  refine (jnext_at rb s a (-1) 0 W HR0.out hs).mono ?_
  rw [nx_ok]
  rintro e W1 ⟨rfl, hR, hg, -⟩
  have HR1 := Lib.hid hR
  have HG1 := Lib.hid (HG0.out.trans hg)
  have HT1 := Lib.hid (Rw.rh_grown HT0.out hg HTB.out)
  have HW1 : Hid (w.heap.size < W1.heap.size) := Lib.hid HT1.out.lt
  clear hR hg HR0 HG0 HT0
  obtain ⟨p, hp⟩ : ∃ p, pk s a = p := ⟨_, rfl⟩
  have HP := Lib.hid hp
  have hpb := pk_bd s a
  rw [hp] at hpb ⊢
  clear hp
  by_cases hq : p = 110
  · have y110 : (p == 110) = true := by rw [hq]; rfl
    have HLT : Hid (a < s.size) := Lib.hid (Classical.byContradiction fun hn => by have := HP.out; rw [pk_ge (by omega)] at this; omega)
    have HXW : Hid (x = (wordP [110, 117, 108, 108] (dr s a)).bind fun _ q => .ok (V0) q) := Lib.hid (by rw [← HX.out, v_null HLT.out (by rw [HP.out]; exact hq)])
    have HWC := Lib.hid (jword_at rb s ⟨#[110, 117, 108, 108]⟩ a 0 0 W1 HR1.out hs HA.out (by decide) wz_null)
    clear hq hpb
    go_wp2_with fail
    refine HWC.out.mono ?_
    rintro e W2 ⟨rfl, hA⟩
    have HAX : Hid (AftJ s rb w W2 x) := Lib.hid (by rw [HXW.out]; exact aft_likeJ (AftJ.tr hA HG1.out))
    have HVX : Hid (∀ u r, x = .ok u r → V0 = u) := Lib.hid (fun u r e => by
      rw [HXW.out] at e
      obtain ⟨_, _, _, e2⟩ := bind_ok e
      cases e2; rfl)
    have HT2 := Lib.hid (Rw.rh_grown HT1.out hA.gr HTB.out)
    clear hA HWC
    have HFI : Hid (ValJ s rb w x (.returned (.agg (vAr 0 0 eB (.slice none 0 0) (.slice none 0 0)))) (W2.setRow w.heap.size (vAr 0 0 eB (.slice none 0 0) (.slice none 0 0)))) := Lib.hid ⟨(V0), _, rfl, on_flat (by unfold i64ok; omega) (by unfold i64ok; omega) (by decide), HVX.out, HAX.out.row (Nat.le_refl _) (by have := HRB.out; omega) _⟩
    go_wp2_with (refine wpList_store_row rfl _ _ _ rfl w.heap.size (vAr 0 0 eB (.slice none 0 0) (.slice none 0 0)) rfl rfl _ _ HT2.out (v_inf5 _ _ _ _ _) rfl (v_all5 _ _ _ _ _ _ _ _ _) ?_)
    (try simp only [Exit.inBlock, Exit.then])
    refine bodyPost_ret (v := .agg (vAr 0 0 eB (.slice none 0 0) (.slice none 0 0))) (results_cell_row rfl _ _ _ _ _ _ _ rfl (HT2.out.row _) Tryz.underlying25 rfl (v_inf5 _ _ _ _ _)) rfl HFI.out
  · have h110 := hq
    clear hq
    by_cases hq : p = 116
    · have n110 : (p == 110) = false := by rw [hq]; rfl
      have y116 : (p == 116) = true := by rw [hq]; rfl
      clear h110
      have HLT : Hid (a < s.size) := Lib.hid (Classical.byContradiction fun hn => by have := HP.out; rw [pk_ge (by omega)] at this; omega)
      have HXW : Hid (x = (wordP [116, 114, 117, 101] (dr s a)).bind fun _ q => .ok (.mk 1 1 ByteArray.empty [] []) q) := Lib.hid (by rw [← HX.out, v_true HLT.out (by rw [HP.out]; exact hq)])
      have HWC := Lib.hid (jword_at rb s ⟨#[116, 114, 117, 101]⟩ a 1 1 W1 HR1.out hs HA.out (by decide) wz_true)
      clear hq hpb
      go_wp2_with fail
      refine HWC.out.mono ?_
      rintro e W2 ⟨rfl, hA⟩
      have HAX : Hid (AftJ s rb w W2 x) := Lib.hid (by rw [HXW.out]; exact aft_likeJ (AftJ.tr hA HG1.out))
      have HVX : Hid (∀ u r, x = .ok u r → .mk 1 1 ByteArray.empty [] [] = u) := Lib.hid (fun u r e => by
        rw [HXW.out] at e
        obtain ⟨_, _, _, e2⟩ := bind_ok e
        cases e2; rfl)
      have HT2 := Lib.hid (Rw.rh_grown HT1.out hA.gr HTB.out)
      clear hA HWC
      have HFI : Hid (ValJ s rb w x (.returned (.agg (vAr 1 1 eB (.slice none 0 0) (.slice none 0 0)))) (W2.setRow w.heap.size (vAr 1 1 eB (.slice none 0 0) (.slice none 0 0)))) := Lib.hid ⟨(.mk 1 1 ByteArray.empty [] []), _, rfl, on_flat (by unfold i64ok; omega) (by unfold i64ok; omega) (by decide), HVX.out, HAX.out.row (Nat.le_refl _) (by have := HRB.out; omega) _⟩
      go_wp2_with (refine wpList_store_row rfl _ _ _ rfl w.heap.size (vAr 1 1 eB (.slice none 0 0) (.slice none 0 0)) rfl rfl _ _ HT2.out (v_inf5 _ _ _ _ _) rfl (v_all5 _ _ _ _ _ _ _ _ _) ?_)
      (try simp only [Exit.inBlock, Exit.then])
      refine bodyPost_ret (v := .agg (vAr 1 1 eB (.slice none 0 0) (.slice none 0 0))) (results_cell_row rfl _ _ _ _ _ _ _ rfl (HT2.out.row _) Tryz.underlying25 rfl (v_inf5 _ _ _ _ _)) rfl HFI.out
    · have h116 := hq
      clear hq
      by_cases hq : p = 102
      · have n110 : (p == 110) = false := by rw [hq]; rfl
        have n116 : (p == 116) = false := by rw [hq]; rfl
        have y102 : (p == 102) = true := by rw [hq]; rfl
        clear h110
        clear h116
        have HLT : Hid (a < s.size) := Lib.hid (Classical.byContradiction fun hn => by have := HP.out; rw [pk_ge (by omega)] at this; omega)
        have HXW : Hid (x = (wordP [102, 97, 108, 115, 101] (dr s a)).bind fun _ q => .ok (.mk 1 0 ByteArray.empty [] []) q) := Lib.hid (by rw [← HX.out, v_false HLT.out (by rw [HP.out]; exact hq)])
        have HWC := Lib.hid (jword_at rb s ⟨#[102, 97, 108, 115, 101]⟩ a 1 0 W1 HR1.out hs HA.out (by decide) wz_false)
        clear hq hpb
        go_wp2_with fail
        refine HWC.out.mono ?_
        rintro e W2 ⟨rfl, hA⟩
        have HAX : Hid (AftJ s rb w W2 x) := Lib.hid (by rw [HXW.out]; exact aft_likeJ (AftJ.tr hA HG1.out))
        have HVX : Hid (∀ u r, x = .ok u r → .mk 1 0 ByteArray.empty [] [] = u) := Lib.hid (fun u r e => by
          rw [HXW.out] at e
          obtain ⟨_, _, _, e2⟩ := bind_ok e
          cases e2; rfl)
        have HT2 := Lib.hid (Rw.rh_grown HT1.out hA.gr HTB.out)
        clear hA HWC
        have HFI : Hid (ValJ s rb w x (.returned (.agg (vAr 1 0 eB (.slice none 0 0) (.slice none 0 0)))) (W2.setRow w.heap.size (vAr 1 0 eB (.slice none 0 0) (.slice none 0 0)))) := Lib.hid ⟨(.mk 1 0 ByteArray.empty [] []), _, rfl, on_flat (by unfold i64ok; omega) (by unfold i64ok; omega) (by decide), HVX.out, HAX.out.row (Nat.le_refl _) (by have := HRB.out; omega) _⟩
        go_wp2_with (refine wpList_store_row rfl _ _ _ rfl w.heap.size (vAr 1 0 eB (.slice none 0 0) (.slice none 0 0)) rfl rfl _ _ HT2.out (v_inf5 _ _ _ _ _) rfl (v_all5 _ _ _ _ _ _ _ _ _) ?_)
        (try simp only [Exit.inBlock, Exit.then])
        refine bodyPost_ret (v := .agg (vAr 1 0 eB (.slice none 0 0) (.slice none 0 0))) (results_cell_row rfl _ _ _ _ _ _ _ rfl (HT2.out.row _) Tryz.underlying25 rfl (v_inf5 _ _ _ _ _)) rfl HFI.out
      · have h102 := hq
        clear hq
        by_cases hq : p = 34
        · have n110 : (p == 110) = false := by rw [hq]; rfl
          have n116 : (p == 116) = false := by rw [hq]; rfl
          have n102 : (p == 102) = false := by rw [hq]; rfl
          have y34 : (p == 34) = true := by rw [hq]; rfl
          clear h110
          clear h116
          clear h102
          have HLT : Hid (a < s.size) := Lib.hid (Classical.byContradiction fun hn => by have := HP.out; rw [pk_ge (by omega)] at this; omega)
          obtain ⟨y, hy⟩ : ∃ y, textP (dr s a) = y := ⟨_, rfl⟩
          have HXW : Hid (x = y.bind fun t q => .ok (txtV t) q) := Lib.hid (by rw [← HX.out, ← hy, v_text HLT.out (by rw [HP.out]; exact hq)])
          have htx := jtext_at rb s a W1 HR1.out hs HA.out
          rw [hy] at htx
          have HTX : Hid (Calls Tryz.prog 26 #[.pointer (some ⟨rb, 0, none⟩)] W1 (TxtJ s rb W1 y)) := Lib.hid htx
          clear htx hy hq hpb
          go_wp2_with fail
          refine HTX.out.mono ?_
          rintro e W2 ⟨tl, htl, rfl, hyv, hA⟩
          have HAX : Hid (AftJ s rb w W2 x) := Lib.hid (by rw [HXW.out]; exact aft_likeJ (AftJ.tr hA HG1.out))
          have HVX : Hid (∀ u r, x = .ok u r → txtV tl = u) := Lib.hid (fun u r e => by
            rw [HXW.out] at e
            obtain ⟨t, q, e1, e2⟩ := bind_ok e
            have e3 := hyv t q e1
            cases e2
            rw [e3])
          have HTS : Hid ((stB tl).size ≤ maxLen) := Lib.hid (by rw [Tx.stB_size]; have := HS2.out; unfold maxLen; omega)
          have HT2 := Lib.hid (Rw.rh_grown HT1.out hA.gr HTB.out)
          clear hA hyv htl HTX
          have HFI : Hid (ValJ s rb w x (.returned (.agg (vAr 3 0 (stB tl) (.slice none 0 0) (.slice none 0 0)))) (W2.setRow w.heap.size (vAr 3 0 (stB tl) (.slice none 0 0) (.slice none 0 0)))) := Lib.hid ⟨(txtV tl), _, rfl, on_flat (by unfold i64ok; omega) (by unfold i64ok; omega) HTS.out, HVX.out, HAX.out.row (Nat.le_refl _) (by have := HRB.out; omega) _⟩
          go_wp2_with (refine wpList_store_row rfl _ _ _ rfl w.heap.size (vAr 3 0 (stB tl) (.slice none 0 0) (.slice none 0 0)) rfl rfl _ _ HT2.out (v_inf5 _ _ _ _ _) rfl (v_all5 _ _ _ _ _ _ _ _ _) ?_)
          (try simp only [Exit.inBlock, Exit.then])
          refine bodyPost_ret (v := .agg (vAr 3 0 (stB tl) (.slice none 0 0) (.slice none 0 0))) (results_cell_row rfl _ _ _ _ _ _ _ rfl (HT2.out.row _) Tryz.underlying25 rfl (v_inf5 _ _ _ _ _)) rfl HFI.out
        · have h34 := hq
          clear hq
          by_cases hq : p = 91
          · have n110 : (p == 110) = false := by rw [hq]; rfl
            have n116 : (p == 116) = false := by rw [hq]; rfl
            have n102 : (p == 102) = false := by rw [hq]; rfl
            have n34 : (p == 34) = false := by rw [hq]; rfl
            have y91 : (p == 91) = true := by rw [hq]; rfl
            clear h110
            clear h116
            clear h102
            clear h34
            have HLT : Hid (a < s.size) := Lib.hid (Classical.byContradiction fun hn => by have := HP.out; rw [pk_ge (by omega)] at this; omega)
            have HXW : Hid (lstP g (dr s (a + 1)) = x) := Lib.hid (by rw [← HX.out, v_list HLT.out (by rw [HP.out]; exact hq)])
            have hc := jlist_at rb s a g W1 HR1.out hs (by rw [HP.out]; exact hq) HLT.out (by have := HF.out; have := HLT.out; omega) (fun k hk => HVA.out k (by omega))
            rw [HXW.out] at hc
            have HC : Hid (Calls Tryz.prog 27 #[.pointer (some ⟨rb, 0, none⟩)] W1 (ValJ s rb W1 x)) := Lib.hid hc
            clear hc hq hpb
            go_wp2_with fail
            refine HC.out.mono ?_
            rintro e W2 ⟨v9, c9, rfl, hon, hvu, hA⟩
            obtain ⟨k6, n6, s6, a6, m6, r6, a7, m7, r7, rfl⟩ := V5 hon.now
            have HON := Lib.hid hon
            have HVX := Lib.hid hvu
            have HAX : Hid (AftJ s rb w W2 x) := Lib.hid (AftJ.tr hA HG1.out)
            have HT2 := Lib.hid (Rw.rh_grown HT1.out hA.gr HTB.out)
            clear hA hvu hon HC
            have HFI : Hid (ValJ s rb w x (.returned (.agg (vAr k6 n6 s6 (.slice a6 m6 r6) (.slice a7 m7 r7)))) (W2.setRow w.heap.size (vAr k6 n6 s6 (.slice a6 m6 r6) (.slice a7 m7 r7)))) := Lib.hid ⟨v9, _, rfl, (HON.out.keep (by rw [setRow_size]; exact Nat.le_refl _) (fun q _ hq => setRow_other _ _ _ _ (by have := HW1.out; omega))).mono (fun q _ hq => by have := HW1.out; omega), HVX.out, HAX.out.row (Nat.le_refl _) (by have := HRB.out; omega) _⟩
            go_wp2_with (refine wpList_store_row rfl _ _ _ rfl w.heap.size (vAr k6 n6 s6 (.slice a6 m6 r6) (.slice a7 m7 r7)) rfl rfl _ _ HT2.out (v_inf5 _ _ _ _ _) rfl (v_all5 _ _ _ _ _ _ _ _ _) ?_)
            (try simp only [Exit.inBlock, Exit.then])
            refine bodyPost_ret (v := .agg (vAr k6 n6 s6 (.slice a6 m6 r6) (.slice a7 m7 r7))) (results_cell_row rfl _ _ _ _ _ _ _ rfl (HT2.out.row _) Tryz.underlying25 rfl (v_inf5 _ _ _ _ _)) rfl HFI.out
          · have h91 := hq
            clear hq
            by_cases hq : p = 123
            · have n110 : (p == 110) = false := by rw [hq]; rfl
              have n116 : (p == 116) = false := by rw [hq]; rfl
              have n102 : (p == 102) = false := by rw [hq]; rfl
              have n34 : (p == 34) = false := by rw [hq]; rfl
              have n91 : (p == 91) = false := by rw [hq]; rfl
              have y123 : (p == 123) = true := by rw [hq]; rfl
              clear h110
              clear h116
              clear h102
              clear h34
              clear h91
              have HLT : Hid (a < s.size) := Lib.hid (Classical.byContradiction fun hn => by have := HP.out; rw [pk_ge (by omega)] at this; omega)
              have HXW : Hid (objP g (dr s (a + 1)) = x) := Lib.hid (by rw [← HX.out, v_obj HLT.out (by rw [HP.out]; exact hq)])
              have hc := jobject_at rb s a g W1 HR1.out HS2.out (by rw [HP.out]; exact hq) HLT.out (by have := HF.out; have := HLT.out; omega) (fun k hk => HVA.out k (by omega))
              rw [HXW.out] at hc
              have HC : Hid (Calls Tryz.prog 28 #[.pointer (some ⟨rb, 0, none⟩)] W1 (ValJ s rb W1 x)) := Lib.hid hc
              clear hc hq hpb
              go_wp2_with fail
              refine HC.out.mono ?_
              rintro e W2 ⟨v9, c9, rfl, hon, hvu, hA⟩
              obtain ⟨k6, n6, s6, a6, m6, r6, a7, m7, r7, rfl⟩ := V5 hon.now
              have HON := Lib.hid hon
              have HVX := Lib.hid hvu
              have HAX : Hid (AftJ s rb w W2 x) := Lib.hid (AftJ.tr hA HG1.out)
              have HT2 := Lib.hid (Rw.rh_grown HT1.out hA.gr HTB.out)
              clear hA hvu hon HC
              have HFI : Hid (ValJ s rb w x (.returned (.agg (vAr k6 n6 s6 (.slice a6 m6 r6) (.slice a7 m7 r7)))) (W2.setRow w.heap.size (vAr k6 n6 s6 (.slice a6 m6 r6) (.slice a7 m7 r7)))) := Lib.hid ⟨v9, _, rfl, (HON.out.keep (by rw [setRow_size]; exact Nat.le_refl _) (fun q _ hq => setRow_other _ _ _ _ (by have := HW1.out; omega))).mono (fun q _ hq => by have := HW1.out; omega), HVX.out, HAX.out.row (Nat.le_refl _) (by have := HRB.out; omega) _⟩
              go_wp2_with (refine wpList_store_row rfl _ _ _ rfl w.heap.size (vAr k6 n6 s6 (.slice a6 m6 r6) (.slice a7 m7 r7)) rfl rfl _ _ HT2.out (v_inf5 _ _ _ _ _) rfl (v_all5 _ _ _ _ _ _ _ _ _) ?_)
              (try simp only [Exit.inBlock, Exit.then])
              refine bodyPost_ret (v := .agg (vAr k6 n6 s6 (.slice a6 m6 r6) (.slice a7 m7 r7))) (results_cell_row rfl _ _ _ _ _ _ _ rfl (HT2.out.row _) Tryz.underlying25 rfl (v_inf5 _ _ _ _ _)) rfl HFI.out
            · have h123 := hq
              clear hq
              have n110 : (p == 110) = false := beq_eq_false_iff_ne.2 h110
              have n116 : (p == 116) = false := beq_eq_false_iff_ne.2 h116
              have n102 : (p == 102) = false := beq_eq_false_iff_ne.2 h102
              have n34 : (p == 34) = false := beq_eq_false_iff_ne.2 h34
              have n91 : (p == 91) = false := beq_eq_false_iff_ne.2 h91
              have n123 : (p == 123) = false := beq_eq_false_iff_ne.2 h123
              have HXR : Hid (a < s.size → x = if p = 45 ∨ (48 ≤ p ∧ p ≤ 57) then (numP (dr s a)).bind fun n q => .ok (.mk 2 n ByteArray.empty [] []) q else .bad (dr s a) 10) := Lib.hid (fun hlt => by
                have h9 := v_rest (g := g) hlt (by rw [HP.out]; exact h110) (by rw [HP.out]; exact h116) (by rw [HP.out]; exact h102) (by rw [HP.out]; exact h34) (by rw [HP.out]; exact h91) (by rw [HP.out]; exact h123)
                rw [HP.out] at h9
                rw [← HX.out, h9])
              clear h110 h116 h102 h34 h91 h123
              by_cases h45 : p = 45
              · have y45 : (p == 45) = true := by rw [h45]; rfl
                have HLT : Hid (a < s.size) := Lib.hid (Classical.byContradiction fun hn => by have := HP.out; rw [pk_ge (by omega)] at this; omega)
                have HXW := Lib.hid ((HXR.out HLT.out).trans (if_pos (.inl h45)))
                clear h45 hpb
                have HNC := Lib.hid (jnum_at rb s a W1 HR1.out hs HA.out)
                go_wp2_with fail
                refine HNC.out.mono ?_
                rintro e W2 ⟨z, hz, rfl, hzv, hA⟩
                have HZO := Lib.hid hz
                have HAX : Hid (AftJ s rb w W2 x) := Lib.hid (by rw [HXW.out]; exact aft_likeJ (AftJ.tr hA HG1.out))
                have HVX : Hid (∀ u r, x = .ok u r → .mk 2 z ByteArray.empty [] [] = u) := Lib.hid (fun u r e => by
                  rw [HXW.out] at e
                  obtain ⟨t, q, e1, e2⟩ := bind_ok e
                  have e3 := hzv t q e1
                  cases e2
                  rw [e3])
                have HT2 := Lib.hid (Rw.rh_grown HT1.out hA.gr HTB.out)
                clear hA hz hzv HNC
                have HFI : Hid (ValJ s rb w x (.returned (.agg (vAr 2 z eB (.slice none 0 0) (.slice none 0 0)))) (W2.setRow w.heap.size (vAr 2 z eB (.slice none 0 0) (.slice none 0 0)))) := Lib.hid ⟨(.mk 2 z ByteArray.empty [] []), _, rfl, on_flat (by unfold i64ok; omega) HZO.out (by decide), HVX.out, HAX.out.row (Nat.le_refl _) (by have := HRB.out; omega) _⟩
                go_wp2_with (refine wpList_store_row rfl _ _ _ rfl w.heap.size (vAr 2 z eB (.slice none 0 0) (.slice none 0 0)) rfl rfl _ _ HT2.out (v_inf5 _ _ _ _ _) rfl (v_all5 _ _ _ _ _ _ _ _ _) ?_)
                (try simp only [Exit.inBlock, Exit.then])
                refine bodyPost_ret (v := .agg (vAr 2 z eB (.slice none 0 0) (.slice none 0 0))) (results_cell_row rfl _ _ _ _ _ _ _ rfl (HT2.out.row _) Tryz.underlying25 rfl (v_inf5 _ _ _ _ _)) rfl HFI.out
              · have n45 : (p == 45) = false := beq_eq_false_iff_ne.2 h45
                go_wp2_with fail
                refine (isDigit_at p W1).mono ?_
                by_cases hd : 48 ≤ p ∧ p ≤ 57
                · have HDG : Hid ((decide (48 ≤ p) && decide (p ≤ 57)) = true) := Lib.hid (by rw [decide_eq_true hd.1, decide_eq_true hd.2]; rfl)
                  rw [HDG.out]
                  rintro e w3 ⟨rfl, hw⟩
                  have hw := hw.symm
                  subst hw
                  have HLT : Hid (a < s.size) := Lib.hid (Classical.byContradiction fun hn => by have h9 := HP.out; rw [pk_ge (by omega)] at h9; have := hd.1; omega)
                  have HXW := Lib.hid ((HXR.out HLT.out).trans (if_pos (.inr hd)))
                  clear hd h45 hpb
                  have HNC := Lib.hid (jnum_at rb s a W1 HR1.out hs HA.out)
                  go_wp2_with fail
                  refine HNC.out.mono ?_
                  rintro e W2 ⟨z, hz, rfl, hzv, hA⟩
                  have HZO := Lib.hid hz
                  have HAX : Hid (AftJ s rb w W2 x) := Lib.hid (by rw [HXW.out]; exact aft_likeJ (AftJ.tr hA HG1.out))
                  have HVX : Hid (∀ u r, x = .ok u r → .mk 2 z ByteArray.empty [] [] = u) := Lib.hid (fun u r e => by
                    rw [HXW.out] at e
                    obtain ⟨t, q, e1, e2⟩ := bind_ok e
                    have e3 := hzv t q e1
                    cases e2
                    rw [e3])
                  have HT2 := Lib.hid (Rw.rh_grown HT1.out hA.gr HTB.out)
                  clear hA hz hzv HNC
                  have HFI : Hid (ValJ s rb w x (.returned (.agg (vAr 2 z eB (.slice none 0 0) (.slice none 0 0)))) (W2.setRow w.heap.size (vAr 2 z eB (.slice none 0 0) (.slice none 0 0)))) := Lib.hid ⟨(.mk 2 z ByteArray.empty [] []), _, rfl, on_flat (by unfold i64ok; omega) HZO.out (by decide), HVX.out, HAX.out.row (Nat.le_refl _) (by have := HRB.out; omega) _⟩
                  go_wp2_with (refine wpList_store_row rfl _ _ _ rfl w.heap.size (vAr 2 z eB (.slice none 0 0) (.slice none 0 0)) rfl rfl _ _ HT2.out (v_inf5 _ _ _ _ _) rfl (v_all5 _ _ _ _ _ _ _ _ _) ?_)
                  (try simp only [Exit.inBlock, Exit.then])
                  refine bodyPost_ret (v := .agg (vAr 2 z eB (.slice none 0 0) (.slice none 0 0))) (results_cell_row rfl _ _ _ _ _ _ _ rfl (HT2.out.row _) Tryz.underlying25 rfl (v_inf5 _ _ _ _ _)) rfl HFI.out
                · have HDG : Hid ((decide (48 ≤ p) && decide (p ≤ 57)) = false) := Lib.hid (by
                    by_cases h1 : 48 ≤ p
                    · rw [decide_eq_false (fun h2 => hd ⟨h1, h2⟩)]; exact Bool.and_false _
                    · rw [decide_eq_false h1]; rfl)
                  rw [HDG.out]
                  rintro e w3 ⟨rfl, hw⟩
                  have hw := hw.symm
                  subst hw
                  have HXB : Hid (x = .bad (dr s a) 10) := Lib.hid (by
                    by_cases hlt : a < s.size
                    · rw [HXR.out hlt, if_neg (fun h9 => by rcases h9 with h9 | h9; exact h45 h9; exact hd h9)]
                    · rw [← HX.out, v_end (by omega)])
                  clear hd h45 hpb
                  obtain ⟨c0, c1, c2, c3⟩ := HR1.out.c
                  go_wp2_with fail
                  refine (jfail_ok rb s a a 10 W1 HR1.out).mono ?_
                  rintro e W2 ⟨rfl, hR, hg⟩
                  have HAX : Hid (AftJ s rb w W2 x) := Lib.hid (by rw [HXB.out]; exact BadJ.at hR HA.out HA.out (HG1.out.trans hg))
                  have HVX : Hid (∀ u r, x = .ok u r → V0 = u) := Lib.hid (fun u r e => by rw [HXB.out] at e; cases e)
                  have HT2 := Lib.hid (Rw.rh_grown HT1.out hg HTB.out)
                  clear hR hg c0 c1 c2 c3
                  have HFI : Hid (ValJ s rb w x (.returned (.agg (vAr 0 0 eB (.slice none 0 0) (.slice none 0 0)))) (W2.setRow w.heap.size (vAr 0 0 eB (.slice none 0 0) (.slice none 0 0)))) := Lib.hid ⟨V0, _, rfl, on_flat (by unfold i64ok; omega) (by unfold i64ok; omega) (by decide), HVX.out, HAX.out.row (Nat.le_refl _) (by have := HRB.out; omega) _⟩
                  go_wp2_with (refine wpList_store_row rfl _ _ _ rfl w.heap.size (vAr 0 0 eB (.slice none 0 0) (.slice none 0 0)) rfl rfl _ _ HT2.out (v_inf5 _ _ _ _ _) rfl (v_all5 _ _ _ _ _ _ _ _ _) ?_)
                  (try simp only [Exit.inBlock, Exit.then])
                  refine bodyPost_ret (v := .agg (vAr 0 0 eB (.slice none 0 0) (.slice none 0 0))) (results_cell_row rfl _ _ _ _ _ _ _ rfl (HT2.out.row _) Tryz.underlying25 rfl (v_inf5 _ _ _ _ _)) rfl HFI.out
theorem jval_at (s : ByteArray) (rb : Nat) (hs : s.size ≤ 25000) : ∀ f, ValJAt s rb f := fun f => by
  induction f using Nat.strongRecOn with
  | ind f ih =>
    cases f with
    | zero => intro a w _ _ h; omega
    | succ g => exact jval_step s rb g hs (fun k hk => ih k hk)
end Fd
end Go.Proofs.YtbhcfmdogdaodaaGreatDoor
