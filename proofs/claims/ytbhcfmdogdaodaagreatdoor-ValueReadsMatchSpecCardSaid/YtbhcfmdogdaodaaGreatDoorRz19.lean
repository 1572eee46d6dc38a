/- value of the program's reader. Printed by gen_rdl.py. value of the program's reader: the walk. Printed by gen_rdv.py. checked of package value. Printed by gen_vchd.py. -/
import Derived.Test.YtbhcfmdogdaodaaGreatDoorRz18
import Derived.Test.YtbhcfmdogdaodaaGreatDoorRz10
namespace Go.Proofs.YtbhcfmdogdaodaaGreatDoor
open Go.RowKit
namespace Fd
open _root_.Go.Proofs.YtbhcfmdogdaodaaGreatDoor.Nm
open _root_.Go.Proofs.YtbhcfmdogdaodaaGreatDoor.Nt (RH RH.cell RH.box RH.lt RH.new RH.ext RH.fre RH.set RH.other)
open _root_.Go.Proofs.YtbhcfmdogdaodaaGreatDoor.Nt (RH.row RH.row_other RH.set_other)
open _root_.Go.Proofs.YtbhcfmdogdaodaaGreatDoor.Rw (All2 wp_stored)
open _root_.Go.Proofs.YtbhcfmdogdaodaaGreatDoor.Tx (stB)
theorem v_end {g : Nat} {s : ByteArray} {a : Nat} (h : s.size ≤ a) : valP (g + 1) (dr s a) = .bad (dr s a) 10 := by rw [dr_ge h, valP]
section
variable {g a : Nat} {s : ByteArray}
theorem v_null (hlt : a < s.size) (h : pk s a = 110) : valP (g + 1) (dr s a) = (wordP [110, 117, 108, 108] (dr s a)).bind fun _ q => .ok V0 q := by
  rw [pk_lt hlt] at h
  have e : s[a] = 110 := UInt8.toNat_inj.1 (by show _ = 110; omega)
  rw [dr_lt hlt, valP, if_pos e]
theorem v_true (hlt : a < s.size) (h : pk s a = 116) : valP (g + 1) (dr s a) = (wordP [116, 114, 117, 101] (dr s a)).bind fun _ q => .ok (.mk 1 1 ByteArray.empty [] []) q := by
  rw [pk_lt hlt] at h
  have e : s[a] = 116 := UInt8.toNat_inj.1 (by show _ = 116; omega)
  rw [dr_lt hlt, valP, if_neg (by rw [e]; decide), if_pos e]
theorem v_false (hlt : a < s.size) (h : pk s a = 102) : valP (g + 1) (dr s a) = (wordP [102, 97, 108, 115, 101] (dr s a)).bind fun _ q => .ok (.mk 1 0 ByteArray.empty [] []) q := by
  rw [pk_lt hlt] at h
  have e : s[a] = 102 := UInt8.toNat_inj.1 (by show _ = 102; omega)
  rw [dr_lt hlt, valP, if_neg (by rw [e]; decide), if_neg (by rw [e]; decide), if_pos e]
theorem v_text (hlt : a < s.size) (h : pk s a = 34) : valP (g + 1) (dr s a) = (textP (dr s a)).bind fun t q => .ok (txtV t) q := by
  rw [pk_lt hlt] at h
  have e : s[a] = 34 := UInt8.toNat_inj.1 (by show _ = 34; omega)
  rw [dr_lt hlt, valP, if_neg (by rw [e]; decide), if_neg (by rw [e]; decide), if_neg (by rw [e]; decide), if_pos e]
theorem v_list (hlt : a < s.size) (h : pk s a = 91) : valP (g + 1) (dr s a) = lstP g (dr s (a + 1)) := by
  rw [pk_lt hlt] at h
  have e : s[a] = 91 := UInt8.toNat_inj.1 (by show _ = 91; omega)
  rw [dr_lt hlt, valP, if_neg (by rw [e]; decide), if_neg (by rw [e]; decide), if_neg (by rw [e]; decide), if_neg (by rw [e]; decide), if_pos e]
  rfl
theorem v_obj (hlt : a < s.size) (h : pk s a = 123) : valP (g + 1) (dr s a) = objP g (dr s (a + 1)) := by
  rw [pk_lt hlt] at h
  have e : s[a] = 123 := UInt8.toNat_inj.1 (by show _ = 123; omega)
  rw [dr_lt hlt, valP, if_neg (by rw [e]; decide), if_neg (by rw [e]; decide), if_neg (by rw [e]; decide), if_neg (by rw [e]; decide), if_neg (by rw [e]; decide), if_pos e]
  rfl
theorem v_rest (hlt : a < s.size) (h1 : pk s a ≠ 110) (h2 : pk s a ≠ 116) (h3 : pk s a ≠ 102) (h4 : pk s a ≠ 34) (h5 : pk s a ≠ 91) (h6 : pk s a ≠ 123) : valP (g + 1) (dr s a) = if pk s a = 45 ∨ (48 ≤ pk s a ∧ pk s a ≤ 57) then (numP (dr s a)).bind fun n q => .ok (.mk 2 n ByteArray.empty [] []) q else .bad (dr s a) 10 := by
  have hd := pk_dig (s := s) (a := a)
  rw [pk_lt hlt] at h1 h2 h3 h4 h5 h6 hd ⊢
  have hn : ∀ k : UInt8, (s[a].toNat : Int) ≠ (k.toNat : Int) → ¬ s[a] = k := fun k h e => h (by rw [e])
  rw [dr_lt hlt, valP, if_neg (hn 110 h1), if_neg (hn 116 h2), if_neg (hn 102 h3), if_neg (hn 34 h4), if_neg (hn 91 h5), if_neg (hn 123 h6)]
  by_cases hc : s[a] = 45 ∨ digB s[a] = true
  · rw [if_pos hc, if_pos]
    rcases hc with hc | hc
    · exact .inl (by rw [hc]; rfl)
    · exact .inr (hd.2 ⟨hlt, hc⟩)
  · rw [if_neg hc, if_neg]
    rintro (h | h)
    · exact hc (.inl (UInt8.toNat_inj.1 (by show _ = 45; omega)))
    · obtain ⟨_, h9⟩ := hd.1 h
      exact hc (.inr h9)
end
end Fd
end Go.Proofs.YtbhcfmdogdaodaaGreatDoor
namespace Go.Proofs.YtbhcfmdogdaodaaGreatDoor
open Go.RowKit
namespace Fd
open _root_.Go.Proofs.YtbhcfmdogdaodaaGreatDoor.Nm
open _root_.Go.Proofs.YtbhcfmdogdaodaaGreatDoor.Nt (RH RH.cell RH.box RH.lt RH.new RH.ext RH.fre RH.set RH.other)
open _root_.Go.Proofs.YtbhcfmdogdaodaaGreatDoor.Nt (RH.row RH.row_other RH.set_other)
open _root_.Go.Proofs.YtbhcfmdogdaodaaGreatDoor.Rw (All2 wp_stored)
open _root_.Go.Proofs.YtbhcfmdogdaodaaGreatDoor.Tx (stB)
theorem on_flat {D : Nat → Prop} {X : World} {k n : Int} {t : ByteArray} (hk : i64ok k) (hn : i64ok n) (ht : t.size ≤ maxLen) : On D (fun Z => RepV Z (.mk k n t [] []) [.int .i64 k, .int .i64 n, .string t, .slice none 0 0, .slice none 0 0]) X :=
  fun Z _ => rep_mk (is := []) (fs := []) (EI := []) (E := []) ⟨hk, hn, ht⟩ (Sl.nil Z) trivial (Sl.nil Z) trivial
theorem aft_bind {s : ByteArray} {rb : Nat} {i : Int} {w w' : World} {α β : Type} {y : Res α} {f : α → β} (h : AftS s rb i w w' y) : AftS s rb i w w' (y.bind fun v q => .ok (f v) q) := by
  cases y with
  | ok v r => exact h
  | bad q e => exact h
set_option maxRecDepth 100000 in
set_option maxHeartbeats 8000000 in
theorem val_step (s : ByteArray) (rb : Nat) (i : Int) (g : Nat) (hs : s.size ≤ 100000) (HI : ∀ k, k < g + 1 → ValAt s rb i k) : ValAt s rb i (g + 1) := by
  intro a w h ha hf
  have hs0 : s.size ≤ 1000000 := by omega
  have hs1 : (s.size : Int) ≤ 100000 := by omega
  have HR := Lib.hid h
  have HVA := Lib.hid HI
  have HRB : Hid (rb < w.heap.size) := Lib.hid h.lt
  obtain ⟨x, hx⟩ : ∃ x, valP (g + 1) (dr s a) = x := ⟨_, rfl⟩
  have HX := Lib.hid hx
  have HA := Lib.hid ha
  have HF := Lib.hid hf
  have hai : (a : Int) ≤ 100000 := by omega
  rw [hx]
  clear h hx ha hf HI
  go_enter Tryz.func8, Tryz.ntmps8
  go_upto_region 1 with (fail)
  refine Tx.wp_vr1 fun W hbW hR1 => ?_
  have HT0 := Lib.hid hR1
  have HR0 := Lib.hid (HR.out.ext hbW)
  have HG0 := Lib.hid (gr_below hbW (some rb))
  have HTB : Hid (some w.heap.size ≠ some rb) := Lib.hid (by have := HRB.out; simp; omega)
  clear hR1 hbW HR
  go_wp2_with fail
  refine (peek_q rb s a 0 i W HR0.out hs0).mono ?_
  rintro e W1 ⟨rfl, hR, hg, -⟩
  have HR1 := Lib.hid hR
  have HG1 := Lib.hid (HG0.out.trans hg)
  have HT1 := Lib.hid (Rw.rh_grown HT0.out hg HTB.out)
  clear hR hg HR0 HG0 HT0
  obtain ⟨p, hp⟩ : ∃ p, pk s a = p := ⟨_, rfl⟩
  have HP := Lib.hid hp
  have hpb := pk_bd s a
  rw [hp] at hpb ⊢
  clear hp
  obtain ⟨c0, c1, c2, c3⟩ := HR1.out.c
  by_cases hlt : a < s.size
  · have hle : decide ((s.size : Int) ≤ (a : Int)) = false := decide_eq_false (by omega)
    have HLT := Lib.hid hlt
    go_upto_region 4 with (fail)
    go_quiet (fail)
    have hR := HR1.out.ext (below_drewN (Below.refl _ _) nq)
    have hg := gr_below (below_drewN (Below.refl W1.heap.size W1) nq) (some rb)
    have HR2 := Lib.hid hR
    have HG2 := Lib.hid (HG1.out.trans hg)
    have HT2 := Lib.hid (Rw.rh_grown HT1.out hg HTB.out)
    clear hR hg c0 c1 c2 c3 HR1 HG1 HT1
    generalize W1.drewN nq = W2 at *
    by_cases hc110 : p = 110
    · have hc := hc110
      have e110 : (p == 110) = true := by simpa using hc
      clear hc110
      have HXW := Lib.hid (HX.out.symm.trans (v_null (g := g) HLT.out (HP.out.trans hc)))
      clear hc
      go_wp2_with fail
      refine (word_at rb s ⟨#[110, 117, 108, 108]⟩ a i W2 HR2.out hs0 HA.out (by decide)).mono ?_
      rintro e Wz ⟨rfl, hA⟩
      have HTZ := Lib.hid (Rw.rh_grown HT2.out hA.gr HTB.out)
      have HAX : Hid (AftS s rb i w Wz x) := Lib.hid (by rw [HXW.out]; exact (aft_bind (f := fun _ => V0) hA).tr HG2.out)
      have HVX : Hid (∀ u r, x = .ok u r → V0 = u) := Lib.hid (fun u r e => by
        rw [HXW.out] at e
        obtain ⟨_, _, _, h2⟩ := bind_ok e
        cases h2; rfl)
      clear hA
      have HFI : Hid (ValPost s rb i w x (.returned (.agg (vAr 0 0 eB (.slice none 0 0) (.slice none 0 0)))) (Wz.setRow w.heap.size (vAr 0 0 eB (.slice none 0 0) (.slice none 0 0)))) := Lib.hid ⟨V0, _, rfl, on_flat (by unfold i64ok; omega) (by unfold i64ok; omega) (by decide), HVX.out, HAX.out.row (Nat.le_refl _) (by have := HRB.out; omega) _⟩
      go_wp2_with (refine wpList_store_row rfl _ _ _ rfl w.heap.size (vAr 0 0 eB (.slice none 0 0) (.slice none 0 0)) rfl rfl _ _ HTZ.out (v_inf5 _ _ _ _ _) rfl (v_all5 _ _ _ _ _ _ _ _ _) ?_)
      (try simp only [Exit.inBlock, Exit.then])
      refine bodyPost_ret (v := .agg (vAr 0 0 eB (.slice none 0 0) (.slice none 0 0))) (results_cell_row rfl _ _ _ _ _ _ _ rfl (HTZ.out.row _) Tryz.underlying25 rfl (v_inf5 _ _ _ _ _)) rfl HFI.out
    · have e110 : (p == 110) = false := by simpa using hc110
      by_cases hc116 : p = 116
      · have hc := hc116
        have e116 : (p == 116) = true := by simpa using hc
        clear hc116
        have HXW := Lib.hid (HX.out.symm.trans (v_true (g := g) HLT.out (HP.out.trans hc)))
        clear hc
        go_wp2_with fail
        refine (word_at rb s ⟨#[116, 114, 117, 101]⟩ a i W2 HR2.out hs0 HA.out (by decide)).mono ?_
        rintro e Wz ⟨rfl, hA⟩
        have HTZ := Lib.hid (Rw.rh_grown HT2.out hA.gr HTB.out)
        have HAX : Hid (AftS s rb i w Wz x) := Lib.hid (by rw [HXW.out]; exact (aft_bind (f := fun _ => (V.mk 1 1 ByteArray.empty [] [])) hA).tr HG2.out)
        have HVX : Hid (∀ u r, x = .ok u r → (V.mk 1 1 ByteArray.empty [] []) = u) := Lib.hid (fun u r e => by
          rw [HXW.out] at e
          obtain ⟨_, _, _, h2⟩ := bind_ok e
          cases h2; rfl)
        clear hA
        have HFI : Hid (ValPost s rb i w x (.returned (.agg (vAr 1 1 eB (.slice none 0 0) (.slice none 0 0)))) (Wz.setRow w.heap.size (vAr 1 1 eB (.slice none 0 0) (.slice none 0 0)))) := Lib.hid ⟨(V.mk 1 1 ByteArray.empty [] []), _, rfl, on_flat (by unfold i64ok; omega) (by unfold i64ok; omega) (by decide), HVX.out, HAX.out.row (Nat.le_refl _) (by have := HRB.out; omega) _⟩
        go_wp2_with (refine wpList_store_row rfl _ _ _ rfl w.heap.size (vAr 1 1 eB (.slice none 0 0) (.slice none 0 0)) rfl rfl _ _ HTZ.out (v_inf5 _ _ _ _ _) rfl (v_all5 _ _ _ _ _ _ _ _ _) ?_)
        (try simp only [Exit.inBlock, Exit.then])
        refine bodyPost_ret (v := .agg (vAr 1 1 eB (.slice none 0 0) (.slice none 0 0))) (results_cell_row rfl _ _ _ _ _ _ _ rfl (HTZ.out.row _) Tryz.underlying25 rfl (v_inf5 _ _ _ _ _)) rfl HFI.out
      · have e116 : (p == 116) = false := by simpa using hc116
        by_cases hc102 : p = 102
        · have hc := hc102
          have e102 : (p == 102) = true := by simpa using hc
          clear hc102
          have HXW := Lib.hid (HX.out.symm.trans (v_false (g := g) HLT.out (HP.out.trans hc)))
          clear hc
          go_wp2_with fail
          refine (word_at rb s ⟨#[102, 97, 108, 115, 101]⟩ a i W2 HR2.out hs0 HA.out (by decide)).mono ?_
          rintro e Wz ⟨rfl, hA⟩
          have HTZ := Lib.hid (Rw.rh_grown HT2.out hA.gr HTB.out)
          have HAX : Hid (AftS s rb i w Wz x) := Lib.hid (by rw [HXW.out]; exact (aft_bind (f := fun _ => (V.mk 1 0 ByteArray.empty [] [])) hA).tr HG2.out)
          have HVX : Hid (∀ u r, x = .ok u r → (V.mk 1 0 ByteArray.empty [] []) = u) := Lib.hid (fun u r e => by
            rw [HXW.out] at e
            obtain ⟨_, _, _, h2⟩ := bind_ok e
            cases h2; rfl)
          clear hA
          have HFI : Hid (ValPost s rb i w x (.returned (.agg (vAr 1 0 eB (.slice none 0 0) (.slice none 0 0)))) (Wz.setRow w.heap.size (vAr 1 0 eB (.slice none 0 0) (.slice none 0 0)))) := Lib.hid ⟨(V.mk 1 0 ByteArray.empty [] []), _, rfl, on_flat (by unfold i64ok; omega) (by unfold i64ok; omega) (by decide), HVX.out, HAX.out.row (Nat.le_refl _) (by have := HRB.out; omega) _⟩
          go_wp2_with (refine wpList_store_row rfl _ _ _ rfl w.heap.size (vAr 1 0 eB (.slice none 0 0) (.slice none 0 0)) rfl rfl _ _ HTZ.out (v_inf5 _ _ _ _ _) rfl (v_all5 _ _ _ _ _ _ _ _ _) ?_)
          (try simp only [Exit.inBlock, Exit.then])
          refine bodyPost_ret (v := .agg (vAr 1 0 eB (.slice none 0 0) (.slice none 0 0))) (results_cell_row rfl _ _ _ _ _ _ _ rfl (HTZ.out.row _) Tryz.underlying25 rfl (v_inf5 _ _ _ _ _)) rfl HFI.out
        · have e102 : (p == 102) = false := by simpa using hc102
          by_cases hc34 : p = 34
          · have hc := hc34
            have e34 : (p == 34) = true := by simpa using hc
            clear hc34
            have HXW := Lib.hid (HX.out.symm.trans (v_text (g := g) HLT.out (HP.out.trans hc)))
            clear hc
            go_wp2_with fail
            refine (text_at rb s a i W2 HR2.out hs0 HA.out).mono ?_
            rintro e Wz ⟨l, hl, rfl, hlu, hA⟩
            have HTZ := Lib.hid (Rw.rh_grown HT2.out hA.gr HTB.out)
            have HAX : Hid (AftS s rb i w Wz x) := Lib.hid (by rw [HXW.out]; exact (aft_bind (f := txtV) hA).tr HG2.out)
            have HVX : Hid (∀ u r, x = .ok u r → txtV l = u) := Lib.hid (fun u r e => by
              rw [HXW.out] at e
              obtain ⟨t, q, h1, h2⟩ := bind_ok e
              have := hlu t q h1
              subst this
              cases h2; rfl)
            have HSZ : Hid ((stB l).size ≤ maxLen) := Lib.hid (by
              have h1 : (stB l).size = l.length := by simp [stB, ByteArray.size]
              rw [h1]; unfold maxLen; omega)
            clear hA hl hlu
            have HFI : Hid (ValPost s rb i w x (.returned (.agg (vAr 3 0 (stB l) (.slice none 0 0) (.slice none 0 0)))) (Wz.setRow w.heap.size (vAr 3 0 (stB l) (.slice none 0 0) (.slice none 0 0)))) := Lib.hid ⟨txtV l, _, rfl, on_flat (by unfold i64ok; omega) (by unfold i64ok; omega) (HSZ.out), HVX.out, HAX.out.row (Nat.le_refl _) (by have := HRB.out; omega) _⟩
            go_wp2_with (refine wpList_store_row rfl _ _ _ rfl w.heap.size (vAr 3 0 (stB l) (.slice none 0 0) (.slice none 0 0)) rfl rfl _ _ HTZ.out (v_inf5 _ _ _ _ _) rfl (v_all5 _ _ _ _ _ _ _ _ _) ?_)
            (try simp only [Exit.inBlock, Exit.then])
            refine bodyPost_ret (v := .agg (vAr 3 0 (stB l) (.slice none 0 0) (.slice none 0 0))) (results_cell_row rfl _ _ _ _ _ _ _ rfl (HTZ.out.row _) Tryz.underlying25 rfl (v_inf5 _ _ _ _ _)) rfl HFI.out
          · have e34 : (p == 34) = false := by simpa using hc34
            by_cases hc91 : p = 91
            · have hc := hc91
              have e91 : (p == 91) = true := by simpa using hc
              clear hc91
              have HXW := Lib.hid (HX.out.symm.trans (v_list (g := g) HLT.out (HP.out.trans hc)))
              have hCC := list_at rb s a g i W2 HR2.out hs0 HLT.out (by have := HF.out; have := HLT.out; omega) (fun k hk => HVA.out k (by omega))
              have hX9 := HXW.out
              rw [← hX9] at hCC
              have HCC := Lib.hid hCC
              clear hc hCC hX9
              go_wp2_with fail
              refine HCC.out.mono ?_
              rintro e Wz ⟨v, c, rfl, hon, hvu, hA⟩
              obtain ⟨k6, n6, s6, a6, m6, r6, a7, m7, r7, rfl⟩ := V5 hon.now
              have HTZ := Lib.hid (Rw.rh_grown HT2.out hA.gr HTB.out)
              have HAX : Hid (AftS s rb i w Wz x) := Lib.hid (hA.tr HG2.out)
              have HFI : Hid (ValPost s rb i w x (.returned (.agg (vAr k6 n6 s6 (.slice a6 m6 r6) (.slice a7 m7 r7)))) (Wz.setRow w.heap.size (vAr k6 n6 s6 (.slice a6 m6 r6) (.slice a7 m7 r7)))) := Lib.hid ⟨v, _, rfl, (hon.keep (by rw [setRow_size]; exact Nat.le_refl _) (fun q _ hq => setRow_other _ _ _ _ (by have := HT2.out.lt; omega))).mono (fun q _ hq => Nat.le_trans HG2.out.size hq), hvu, HAX.out.row (Nat.le_refl _) (by have := HRB.out; omega) _⟩
              clear hA hon hvu HCC
              go_wp2_with (refine wpList_store_row rfl _ _ _ rfl w.heap.size (vAr k6 n6 s6 (.slice a6 m6 r6) (.slice a7 m7 r7)) rfl rfl _ _ HTZ.out (v_inf5 _ _ _ _ _) rfl (v_all5 _ _ _ _ _ _ _ _ _) ?_)
              (try simp only [Exit.inBlock, Exit.then])
              refine bodyPost_ret (v := .agg (vAr k6 n6 s6 (.slice a6 m6 r6) (.slice a7 m7 r7))) (results_cell_row rfl _ _ _ _ _ _ _ rfl (HTZ.out.row _) Tryz.underlying25 rfl (v_inf5 _ _ _ _ _)) rfl HFI.out
            · have e91 : (p == 91) = false := by simpa using hc91
              by_cases hc123 : p = 123
              · have hc := hc123
                have e123 : (p == 123) = true := by simpa using hc
                clear hc123
                have HXW := Lib.hid (HX.out.symm.trans (v_obj (g := g) HLT.out (HP.out.trans hc)))
                have hCC := object_at rb s a g i W2 HR2.out hs HLT.out (by have := HF.out; have := HLT.out; omega) (fun k hk => HVA.out k (by omega))
                have hX9 := HXW.out
                rw [← hX9] at hCC
                have HCC := Lib.hid hCC
                clear hc hCC hX9
                go_wp2_with fail
                refine HCC.out.mono ?_
                rintro e Wz ⟨v, c, rfl, hon, hvu, hA⟩
                obtain ⟨k6, n6, s6, a6, m6, r6, a7, m7, r7, rfl⟩ := V5 hon.now
                have HTZ := Lib.hid (Rw.rh_grown HT2.out hA.gr HTB.out)
                have HAX : Hid (AftS s rb i w Wz x) := Lib.hid (hA.tr HG2.out)
                have HFI : Hid (ValPost s rb i w x (.returned (.agg (vAr k6 n6 s6 (.slice a6 m6 r6) (.slice a7 m7 r7)))) (Wz.setRow w.heap.size (vAr k6 n6 s6 (.slice a6 m6 r6) (.slice a7 m7 r7)))) := Lib.hid ⟨v, _, rfl, (hon.keep (by rw [setRow_size]; exact Nat.le_refl _) (fun q _ hq => setRow_other _ _ _ _ (by have := HT2.out.lt; omega))).mono (fun q _ hq => Nat.le_trans HG2.out.size hq), hvu, HAX.out.row (Nat.le_refl _) (by have := HRB.out; omega) _⟩
                clear hA hon hvu HCC
                go_wp2_with (refine wpList_store_row rfl _ _ _ rfl w.heap.size (vAr k6 n6 s6 (.slice a6 m6 r6) (.slice a7 m7 r7)) rfl rfl _ _ HTZ.out (v_inf5 _ _ _ _ _) rfl (v_all5 _ _ _ _ _ _ _ _ _) ?_)
                (try simp only [Exit.inBlock, Exit.then])
                refine bodyPost_ret (v := .agg (vAr k6 n6 s6 (.slice a6 m6 r6) (.slice a7 m7 r7))) (results_cell_row rfl _ _ _ _ _ _ _ rfl (HTZ.out.row _) Tryz.underlying25 rfl (v_inf5 _ _ _ _ _)) rfl HFI.out
              · have e123 : (p == 123) = false := by simpa using hc123
                have HVR := Lib.hid (HX.out.symm.trans (v_rest (g := g) HLT.out (by rw [HP.out]; exact hc110) (by rw [HP.out]; exact hc116) (by rw [HP.out]; exact hc102) (by rw [HP.out]; exact hc34) (by rw [HP.out]; exact hc91) (by rw [HP.out]; exact hc123)))
                have HVS : Hid (x = if p = 45 ∨ (48 ≤ p ∧ p ≤ 57) then (numP (dr s a)).bind fun n q => .ok (.mk 2 n ByteArray.empty [] []) q else .bad (dr s a) 10) := Lib.hid (by rw [HVR.out, HP.out])
                clear hc110 hc116 hc102 hc34 hc91 hc123 HVR
                by_cases h45 : p = 45
                · have e45 : (p == 45) = true := by simpa using h45
                  have HXW := Lib.hid (HVS.out.trans (if_pos (.inl h45)))
                  clear h45
                  go_wp2_with fail
                  refine (num_at rb s a i W2 HR2.out hs0 HA.out).mono ?_
                  rintro e Wz ⟨z, hz, rfl, hzu, hA⟩
                  have HTZ := Lib.hid (Rw.rh_grown HT2.out hA.gr HTB.out)
                  have HAX : Hid (AftS s rb i w Wz x) := Lib.hid (by rw [HXW.out]; exact (aft_bind (f := fun n => V.mk 2 n ByteArray.empty [] []) hA).tr HG2.out)
                  have HVX : Hid (∀ u r, x = .ok u r → V.mk 2 z ByteArray.empty [] [] = u) := Lib.hid (fun u r e => by
                    rw [HXW.out] at e
                    obtain ⟨t, q, h1, h2⟩ := bind_ok e
                    have := hzu t q h1
                    subst this
                    cases h2; rfl)
                  have HZ := Lib.hid hz
                  clear hA hz hzu
                  have HFI : Hid (ValPost s rb i w x (.returned (.agg (vAr 2 z eB (.slice none 0 0) (.slice none 0 0)))) (Wz.setRow w.heap.size (vAr 2 z eB (.slice none 0 0) (.slice none 0 0)))) := Lib.hid ⟨.mk 2 z eB [] [], _, rfl, on_flat (by unfold i64ok; omega) (HZ.out) (by decide), HVX.out, HAX.out.row (Nat.le_refl _) (by have := HRB.out; omega) _⟩
                  go_wp2_with (refine wpList_store_row rfl _ _ _ rfl w.heap.size (vAr 2 z eB (.slice none 0 0) (.slice none 0 0)) rfl rfl _ _ HTZ.out (v_inf5 _ _ _ _ _) rfl (v_all5 _ _ _ _ _ _ _ _ _) ?_)
                  (try simp only [Exit.inBlock, Exit.then])
                  refine bodyPost_ret (v := .agg (vAr 2 z eB (.slice none 0 0) (.slice none 0 0))) (results_cell_row rfl _ _ _ _ _ _ _ rfl (HTZ.out.row _) Tryz.underlying25 rfl (v_inf5 _ _ _ _ _)) rfl HFI.out
                · have e45 : (p == 45) = false := by simpa using h45
                  by_cases h1 : 48 ≤ p
                  · by_cases h2 : p ≤ 57
                    · have HXW := Lib.hid (HVS.out.trans (if_pos (.inr ⟨h1, h2⟩)))
                      go_wp2_with fail
                      refine (num_at rb s a i W2 HR2.out hs0 HA.out).mono ?_
                      rintro e Wz ⟨z, hz, rfl, hzu, hA⟩
                      have HTZ := Lib.hid (Rw.rh_grown HT2.out hA.gr HTB.out)
                      have HAX : Hid (AftS s rb i w Wz x) := Lib.hid (by rw [HXW.out]; exact (aft_bind (f := fun n => V.mk 2 n ByteArray.empty [] []) hA).tr HG2.out)
                      have HVX : Hid (∀ u r, x = .ok u r → V.mk 2 z ByteArray.empty [] [] = u) := Lib.hid (fun u r e => by
                        rw [HXW.out] at e
                        obtain ⟨t, q, h1, h2⟩ := bind_ok e
                        have := hzu t q h1
                        subst this
                        cases h2; rfl)
                      have HZ := Lib.hid hz
                      clear hA hz hzu
                      have HFI : Hid (ValPost s rb i w x (.returned (.agg (vAr 2 z eB (.slice none 0 0) (.slice none 0 0)))) (Wz.setRow w.heap.size (vAr 2 z eB (.slice none 0 0) (.slice none 0 0)))) := Lib.hid ⟨.mk 2 z eB [] [], _, rfl, on_flat (by unfold i64ok; omega) (HZ.out) (by decide), HVX.out, HAX.out.row (Nat.le_refl _) (by have := HRB.out; omega) _⟩
                      go_wp2_with (refine wpList_store_row rfl _ _ _ rfl w.heap.size (vAr 2 z eB (.slice none 0 0) (.slice none 0 0)) rfl rfl _ _ HTZ.out (v_inf5 _ _ _ _ _) rfl (v_all5 _ _ _ _ _ _ _ _ _) ?_)
                      (try simp only [Exit.inBlock, Exit.then])
                      refine bodyPost_ret (v := .agg (vAr 2 z eB (.slice none 0 0) (.slice none 0 0))) (results_cell_row rfl _ _ _ _ _ _ _ rfl (HTZ.out.row _) Tryz.underlying25 rfl (v_inf5 _ _ _ _ _)) rfl HFI.out
                    · have HXB := Lib.hid (HVS.out.trans (if_neg (by omega)))
                      obtain ⟨c0, c1, c2, c3⟩ := HR2.out.c
                      go_wp2_with fail
                      refine (fail_ok rb s a a 10 i W2 HR2.out hs0 HA.out rfl).mono ?_
                      rintro e Wz ⟨rfl, hR, hg⟩
                      have HTZ := Lib.hid (Rw.rh_grown HT2.out hg HTB.out)
                      have HAX : Hid (AftS s rb i w Wz x) := Lib.hid (by rw [HXB.out]; exact BadS.at hR HA.out (HG2.out.trans hg))
                      have HVX : Hid (∀ u r, x = .ok u r → V0 = u) := Lib.hid (fun u r e => by rw [HXB.out] at e; cases e)
                      clear hR hg c0 c1 c2 c3
                      have HFI : Hid (ValPost s rb i w x (.returned (.agg (vAr 0 0 eB (.slice none 0 0) (.slice none 0 0)))) (Wz.setRow w.heap.size (vAr 0 0 eB (.slice none 0 0) (.slice none 0 0)))) := Lib.hid ⟨V0, _, rfl, on_flat (by unfold i64ok; omega) (by unfold i64ok; omega) (by decide), HVX.out, HAX.out.row (Nat.le_refl _) (by have := HRB.out; omega) _⟩
                      go_wp2_with (refine wpList_store_row rfl _ _ _ rfl w.heap.size (vAr 0 0 eB (.slice none 0 0) (.slice none 0 0)) rfl rfl _ _ HTZ.out (v_inf5 _ _ _ _ _) rfl (v_all5 _ _ _ _ _ _ _ _ _) ?_)
                      (try simp only [Exit.inBlock, Exit.then])
                      refine bodyPost_ret (v := .agg (vAr 0 0 eB (.slice none 0 0) (.slice none 0 0))) (results_cell_row rfl _ _ _ _ _ _ _ rfl (HTZ.out.row _) Tryz.underlying25 rfl (v_inf5 _ _ _ _ _)) rfl HFI.out
                  · have HXB := Lib.hid (HVS.out.trans (if_neg (by omega)))
                    obtain ⟨c0, c1, c2, c3⟩ := HR2.out.c
                    go_wp2_with fail
                    refine (fail_ok rb s a a 10 i W2 HR2.out hs0 HA.out rfl).mono ?_
                    rintro e Wz ⟨rfl, hR, hg⟩
                    have HTZ := Lib.hid (Rw.rh_grown HT2.out hg HTB.out)
                    have HAX : Hid (AftS s rb i w Wz x) := Lib.hid (by rw [HXB.out]; exact BadS.at hR HA.out (HG2.out.trans hg))
                    have HVX : Hid (∀ u r, x = .ok u r → V0 = u) := Lib.hid (fun u r e => by rw [HXB.out] at e; cases e)
                    clear hR hg c0 c1 c2 c3
                    have HFI : Hid (ValPost s rb i w x (.returned (.agg (vAr 0 0 eB (.slice none 0 0) (.slice none 0 0)))) (Wz.setRow w.heap.size (vAr 0 0 eB (.slice none 0 0) (.slice none 0 0)))) := Lib.hid ⟨V0, _, rfl, on_flat (by unfold i64ok; omega) (by unfold i64ok; omega) (by decide), HVX.out, HAX.out.row (Nat.le_refl _) (by have := HRB.out; omega) _⟩
                    go_wp2_with (refine wpList_store_row rfl _ _ _ rfl w.heap.size (vAr 0 0 eB (.slice none 0 0) (.slice none 0 0)) rfl rfl _ _ HTZ.out (v_inf5 _ _ _ _ _) rfl (v_all5 _ _ _ _ _ _ _ _ _) ?_)
                    (try simp only [Exit.inBlock, Exit.then])
                    refine bodyPost_ret (v := .agg (vAr 0 0 eB (.slice none 0 0) (.slice none 0 0))) (results_cell_row rfl _ _ _ _ _ _ _ rfl (HTZ.out.row _) Tryz.underlying25 rfl (v_inf5 _ _ _ _ _)) rfl HFI.out
  · have hle : decide ((s.size : Int) ≤ (a : Int)) = true := decide_eq_true (by omega)
    have HXB : Hid (x = .bad (dr s a) 10) := Lib.hid (by rw [← HX.out, v_end (by omega)])
    go_upto_region 4 with (fail)
    go_quiet (fail)
    have hR := HR1.out.ext (below_drewN (Below.refl _ _) nq)
    have hg := gr_below (below_drewN (Below.refl W1.heap.size W1) nq) (some rb)
    have HR2 := Lib.hid hR
    have HG2 := Lib.hid (HG1.out.trans hg)
    have HT2 := Lib.hid (Rw.rh_grown HT1.out hg HTB.out)
    clear hR hg c0 c1 c2 c3 HR1 HG1 HT1
    generalize W1.drewN nq = W2 at *
    obtain ⟨c0, c1, c2, c3⟩ := HR2.out.c
    go_wp2_with fail
    refine (fail_ok rb s a a 10 i W2 HR2.out hs0 HA.out rfl).mono ?_
    rintro e Wz ⟨rfl, hR, hg⟩
    have HTZ := Lib.hid (Rw.rh_grown HT2.out hg HTB.out)
    have HAX : Hid (AftS s rb i w Wz x) := Lib.hid (by rw [HXB.out]; exact BadS.at hR HA.out (HG2.out.trans hg))
    have HVX : Hid (∀ u r, x = .ok u r → V0 = u) := Lib.hid (fun u r e => by rw [HXB.out] at e; cases e)
    clear hR hg c0 c1 c2 c3
    have HFI : Hid (ValPost s rb i w x (.returned (.agg (vAr 0 0 eB (.slice none 0 0) (.slice none 0 0)))) (Wz.setRow w.heap.size (vAr 0 0 eB (.slice none 0 0) (.slice none 0 0)))) := Lib.hid ⟨V0, _, rfl, on_flat (by unfold i64ok; omega) (by unfold i64ok; omega) (by decide), HVX.out, HAX.out.row (Nat.le_refl _) (by have := HRB.out; omega) _⟩
    go_wp2_with (refine wpList_store_row rfl _ _ _ rfl w.heap.size (vAr 0 0 eB (.slice none 0 0) (.slice none 0 0)) rfl rfl _ _ HTZ.out (v_inf5 _ _ _ _ _) rfl (v_all5 _ _ _ _ _ _ _ _ _) ?_)
    (try simp only [Exit.inBlock, Exit.then])
    refine bodyPost_ret (v := .agg (vAr 0 0 eB (.slice none 0 0) (.slice none 0 0))) (results_cell_row rfl _ _ _ _ _ _ _ rfl (HTZ.out.row _) Tryz.underlying25 rfl (v_inf5 _ _ _ _ _)) rfl HFI.out
theorem val_at (s : ByteArray) (rb : Nat) (i : Int) (hs : s.size ≤ 100000) : ∀ f, ValAt s rb i f := fun f => by
  induction f using Nat.strongRecOn with
  | ind f ih =>
    cases f with
    | zero => intro a w h ha hf; omega
    | succ g => exact val_step s rb i g hs ih
end Fd
end Go.Proofs.YtbhcfmdogdaodaaGreatDoor
namespace Go.Proofs.YtbhcfmdogdaodaaGreatDoor
open Go.RowKit
namespace Fd
open _root_.Go.Proofs.YtbhcfmdogdaodaaGreatDoor.Nt (RH RH.cell RH.box RH.lt RH.new RH.ext RH.fre RH.set RH.other RH.row RH.row_other)
open _root_.Go.Proofs.YtbhcfmdogdaodaaGreatDoor.Rw (wpList_load_agg wp_stored Kept Fresh)
set_option maxRecDepth 100000 in
set_option maxHeartbeats 16000000 in
theorem checked_at (x : V) (cx : List Value) (w : World) (hx : RepV w x cx) : Calls Tryz.prog 10 #[.agg cx.toArray] w (CkPost x cx w) := by
  obtain ⟨k1, n1, s1, b1, b2, b3, b4, b5, b6, rfl⟩ := V5 hx
  have HX := Lib.hid hx
  obtain ⟨z, hz⟩ : ∃ z, chkF x = z := ⟨_, rfl⟩
  have HZ := Lib.hid hz
  have HC : Hid (chkdF x = if z ≠ 0 then (V0, z) else (x, 0)) := Lib.hid (by rw [← hz]; rfl)
  clear hx hz
  go_enter Tryz.func10, Tryz.ntmps10
  go_upto_region 1 with (fail)
  refine Tx.wp_vr2 fun W hbW hR1 hR2 => ?_
  obtain ⟨a0, a1, a2, a3, a4⟩ := va5 hR1
  have HR1 := Lib.hid hR1
  have HR2 := Lib.hid hR2
  have HBW := Lib.hid hbW
  clear hR1 hR2 hbW
  go_wp2_with fail
  refine (check_at x _ W (RepV.ext HBW.out HX.out)).mono ?_
  rintro e w1 ⟨rfl, hb1⟩
  rw [HZ.out]
  have HB1 := Lib.hid (ext_trans HBW.out hb1)
  have HR3 := Lib.hid (HR2.out.ext hb1)
  have HR4 := Lib.hid (HR1.out.ext hb1)
  clear a0 a1 a2 a3 a4 hb1
  obtain ⟨a0, a1, a2, a3, a4⟩ := va5 HR4.out
  by_cases h : z = 0
  · have HN := Lib.hid (HC.out.trans (if_neg (by rw [h]; simp)))
    subst h
    clear HC
    go_wp2_with (refine wpList_store_row rfl _ _ _ rfl (w.heap.size + 1) (vAr k1 n1 s1 (.slice b1 b2 b3) (.slice b4 b5 b6)) rfl rfl _ _ (HR3.out) (v_inf5 _ _ _ _ _) rfl (v_all5 _ _ _ _ _ _ _ _ _) ?_)
    (try simp only [Exit.inBlock, Exit.then])
    refine bodyPost_ret (v := .tuple #[.agg (vAr k1 n1 s1 (.slice b1 b2 b3) (.slice b4 b5 b6)), .int .i64 0]) (results_row_tmp rfl _ _ _ _ _ _ _ _ rfl (HR3.out.row _) Tryz.underlying25 rfl (v_inf5 _ _ _ _ _) rfl) rfl ?_
    refine ⟨_, by rw [HN.out], below_setRow HB1.out (by omega) _, fun W9 M h9 => ?_⟩
    rw [HN.out]
    exact h9
  · have HN := Lib.hid (HC.out.trans (if_pos h))
    have hzb : (z != 0) = true := by simpa using h
    clear HC
    go_wp2_with (refine wpList_store_row rfl _ _ _ rfl (w.heap.size + 1) (vAr 0 0 eB (.slice none 0 0) (.slice none 0 0)) rfl rfl _ _ (HR3.out) (v_inf5 _ _ _ _ _) rfl (v_all5 _ _ _ _ _ _ _ _ _) ?_)
    (try simp only [Exit.inBlock, Exit.then])
    refine bodyPost_ret (v := .tuple #[.agg (vAr 0 0 eB (.slice none 0 0) (.slice none 0 0)), .int .i64 z]) (results_row_tmp rfl _ _ _ _ _ _ _ _ rfl (HR3.out.row _) Tryz.underlying25 rfl (v_inf5 _ _ _ _ _) rfl) rfl ?_
    refine ⟨[.int .i64 0, .int .i64 0, .string eB, .slice none 0 0, .slice none 0 0], by rw [HN.out], below_setRow HB1.out (by omega) _, fun W9 M h9 => ?_⟩
    rw [HN.out]
    exact fun _ _ => rep_zero _
end Fd
end Go.Proofs.YtbhcfmdogdaodaaGreatDoor
