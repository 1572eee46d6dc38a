/- number of the reference's reader. Printed by gen_rjf.py. -/
import Derived.Test.YtbhcfmdogdaodaaGreatDoorRz23
import Derived.Test.YtbhcfmdogdaodaaGreatDoorRz11
namespace Go.Proofs.YtbhcfmdogdaodaaGreatDoor
open Go.RowKit
namespace Fd
open _root_.Go.Proofs.YtbhcfmdogdaodaaGreatDoor.Nm
open _root_.Go.Proofs.YtbhcfmdogdaodaaGreatDoor.Nt (RH RH.cell RH.box RH.lt RH.new RH.ext RH.fre RH.set RH.other)
/-- what number answers -/
def NumJ (s : ByteArray) (rb : Nat) (w : World) (x : Res Int) (e : Ending) (w' : World) : Prop := ∃ z : Int, i64ok z ∧ e = .returned (.agg (vAr 2 z eB (.slice none 0 0) (.slice none 0 0))) ∧ (∀ v r, x = .ok v r → v = z) ∧ AftJ s rb w w' x
theorem repeatL_one (c : UInt8) (n : Nat) : Lib.repeatL [c] n = List.replicate n c := by
  induction n with
  | zero => rfl
  | succ n ih => rw [Lib.repeatL, ih]; rfl
theorem decv_zeros (n : Nat) : decv (List.replicate n (48 : UInt8)) = 0 := by
  induction n with
  | zero => rfl
  | succ n ih =>
    rw [List.replicate_succ', decv_snoc, ih]; rfl
theorem digs_zeros (n : Nat) : Digs (List.replicate n (48 : UInt8)) := fun c hc => by
  rw [List.eq_of_mem_replicate hc]; decide
theorem Digs.app {l m : List UInt8} (h : Digs l) (k : Digs m) : Digs (l ++ m) := fun c hc => by
  rcases List.mem_append.1 hc with hc | hc
  · exact h c hc
  · exact k c hc
/-- the text of thousandths that strconv.Atoi reads -/
def jnum (S T : ByteArray) : ByteArray := S ++ T ++ ⟨(Lib.repeatL [48] (3 - T.size)).toArray⟩
theorem jnum_list (S T : ByteArray) : (jnum S T).data.toList = S.data.toList ++ T.data.toList ++ List.replicate (3 - T.size) 48 := by
  unfold jnum
  rw [repeatL_one]
  simp
theorem jnum_digs {S T : ByteArray} (h : Digs S.data.toList) (k : Digs T.data.toList) : Digs (jnum S T).data.toList := by
  rw [jnum_list]; exact Digs.app (Digs.app h k) (digs_zeros _)
theorem jnum_size {S T : ByteArray} (h : T.size ≤ 3) : (jnum S T).size = S.size + 3 := by
  rw [Lib.size_eq, jnum_list, List.length_append, List.length_append, List.length_replicate, ← Lib.size_eq, ← Lib.size_eq]
  omega
theorem jnum_val {S T : ByteArray} (h : T.size ≤ 3) : decv (jnum S T).data.toList = decv S.data.toList * 1000 + decv T.data.toList * 10 ^ (3 - T.size) := by
  rw [jnum_list, decv_append, decv_zeros, List.length_replicate, decv_append, ← Lib.size_eq, Nat.add_zero, Nat.add_mul, Nat.mul_assoc, ← Nat.pow_add, show T.size + (3 - T.size) = 3 by omega]
theorem jnum_atoi {S T : ByteArray} (h : Digs S.data.toList) (k : Digs T.data.toList) (hS : S.size ≤ 12) (hT : T.size ≤ 3) (w : World) : Calls Tryz.prog 50 #[.string (jnum S T)] w fun e w' => e = .returned (.tuple #[.int .i64 ((decv (jnum S T).data.toList : Nat) : Int), .nilIface]) ∧ Below w.heap.size w w' :=
  Tx.atoi_at (jnum S T) (jnum_digs h k) (by rw [jnum_size hT]; omega) (by rw [jnum_size hT]; omega) w
theorem jnum_lt {S T : ByteArray} (h : Digs S.data.toList) (k : Digs T.data.toList) (hS : S.size ≤ 12) (hT : T.size ≤ 3) : decv (jnum S T).data.toList < 1000000000000000 := by
  have h1 := decv_lt (jnum_digs h k)
  rw [← Lib.size_eq, jnum_size hT] at h1
  exact Nat.lt_of_lt_of_le h1 (Nat.le_trans (Nat.pow_le_pow_right (by decide) (by omega : S.size + 3 ≤ 15)) (by decide))
theorem zeros_at (n : Nat) (hn : n ≤ 3) (w : World) : Calls Tryz.prog 51 #[.string ⟨#[48]⟩, .int .i64 (n : Int)] w fun e w' => e = .returned (.string ⟨(Lib.repeatL [48] n).toArray⟩) ∧ Below w.heap.size w w' :=
  Tryz.strings_Repeat ⟨#[48]⟩ n w (by omega) (by show 1 * n ≤ _; omega)
theorem AftJ.bad {s : ByteArray} {rb : Nat} {w w' : World} {α β : Type} {x : Res α} {y : Res β} (h : AftJ s rb w w' x) {q : List UInt8} {er : Int} (hx : x = .bad q er) (hy : y = .bad q er) : AftJ s rb w w' y := by
  subst hx hy; exact h
theorem aftj_bad {s : ByteArray} {rb : Nat} {w w' : World} {α : Type} {x : Res α} (h : AftJ s rb w w' x) {q : List UInt8} {er : Int} (hx : x = .bad q er) : BadJ s rb w w' q er := by
  subst hx; exact h
set_option maxRecDepth 100000 in
set_option maxHeartbeats 8000000 in
theorem jnum_at (rb : Nat) (s : ByteArray) (a : Nat) (w : World) (h : RJ w rb s a (-1) 0) (hs : s.size ≤ 1000000) (ha : a ≤ s.size) : Calls Tryz.prog 30 #[.pointer (some ⟨rb, 0, none⟩)] w (NumJ s rb w (numP (dr s a))) := by
  have hs1 : (s.size : Int) ≤ 1000000 := by omega
  have HR := Lib.hid h
  have HRB : Hid (rb < w.heap.size) := Lib.hid h.lt
  obtain ⟨x, hx⟩ : ∃ x, numP (dr s a) = x := ⟨_, rfl⟩
  have HX := Lib.hid hx
  rw [hx]
  clear h hx
  go_enter Tryz.func30, Tryz.ntmps30
  go_upto_region 1 with (fail)
  refine Tx.wp_vr1 fun W hbW hR1 => ?_
  have HT0 : Hid (RH W w.heap.size (vAr 0 0 eB (.slice none 0 0) (.slice none 0 0)) 25) := Lib.hid hR1
  have HR0 := Lib.hid (HR.out.ext hbW)
  have HG0 := Lib.hid (gr_below hbW (some rb))
  have HTB : Hid (some w.heap.size ≠ some rb) := Lib.hid (by have := HRB.out; simp; omega)
  clear hR1 hbW HR
  by_cases hm : pk s a = 45
  · have hmb : (pk s a == 45) = true := by simpa using hm
    have HNM := Lib.hid (numP_neg hm)
    have HLA0 : Hid (a < s.size) := Lib.hid HNM.out.1
    clear hm
    go_wp2_with fail
    refine (jnext_at rb s a (-1) 0 W HR0.out hs).mono ?_
    rw [nx_ok]
    rintro e Wa ⟨rfl, hR, hg, -⟩
    have HR1 := Lib.hid hR
    have HG1 := Lib.hid (HG0.out.trans hg)
    have HT1 := Lib.hid (Rw.rh_grown HT0.out hg HTB.out)
    clear hR hg
    obtain ⟨c0, c1, c2, c3⟩ := HR1.out.c
    have z1 := HR1.out.z 1
    have hai : (a : Int) < (s.size : Int) := by have := HLA0.out; omega
    have ha0 : (0 : Int) ≤ (a : Int) := Int.natCast_nonneg _
    go_upto_region 5 with (fail)
    have hR : RJ (Wa.setCell ⟨rb, 1, none⟩ (.int .i64 ((a : Int) + 1))) rb s (a + 1) (-1) 0 := HR1.out.next (a + 1)
    have hg := gr_set Wa rb 1 (.int .i64 ((a : Int) + 1))
    have HR2 := Lib.hid hR
    have HG2 := Lib.hid (HG1.out.trans hg)
    have HT2 := Lib.hid (Rw.rh_grown HT1.out hg HTB.out)
    clear hR hg
    clear c0 c1 c2 c3 z1 hai ha0
    generalize Wa.setCell ⟨rb, 1, none⟩ (.int .i64 ((a : Int) + 1)) = Wa2 at *
    obtain ⟨c, hc⟩ : ∃ z, a + 1 = z := ⟨_, rfl⟩
    have HQc : Hid (c ≤ s.size) := Lib.hid (by have := HLA0.out; omega)
    rw [hc] at HR2
    rw [hc] at HNM
    clear hc
    replace HX := Lib.hid (HNM.out.2.symm.trans HX.out)
    clear HNM
    by_cases hz : pk s c = 48
    · have hzb : (pk s c == 48) = true := by simpa using hz
      have HWZ := Lib.hid (wholeP_zero hz)
      have HLA : Hid (c < s.size) := Lib.hid HWZ.out.1
      clear hz
      go_wp2_with fail
      refine (jnext_at rb s c (-1) 0 Wa2 HR2.out hs).mono ?_
      rw [nx_ok]
      rintro e Wb ⟨rfl, hR, hg, -⟩
      have HR3 := Lib.hid hR
      have HG3 := Lib.hid (HG2.out.trans hg)
      have HT3 := Lib.hid (Rw.rh_grown HT2.out hg HTB.out)
      clear hR hg
      obtain ⟨c0, c1, c2, c3⟩ := HR3.out.c
      have z1 := HR3.out.z 1
      have hai : (c : Int) < (s.size : Int) := by have := HLA.out; omega
      have ha0 : (0 : Int) ≤ (c : Int) := Int.natCast_nonneg _
      go_upto_region 8 with (fail)
      have hR : RJ (Wb.setCell ⟨rb, 1, none⟩ (.int .i64 ((c : Int) + 1))) rb s (c + 1) (-1) 0 := HR3.out.next (c + 1)
      have hg := gr_set Wb rb 1 (.int .i64 ((c : Int) + 1))
      have HR4 := Lib.hid hR
      have HG4 := Lib.hid (HG3.out.trans hg)
      have HT4 := Lib.hid (Rw.rh_grown HT3.out hg HTB.out)
      clear hR hg
      clear c0 c1 c2 c3 z1 hai ha0
      generalize Wb.setCell ⟨rb, 1, none⟩ (.int .i64 ((c : Int) + 1)) = Wc at *
      obtain ⟨d, hd⟩ : ∃ z, c + 1 = z := ⟨_, rfl⟩
      have HQd : Hid (d ≤ s.size) := Lib.hid (by have := HLA.out; omega)
      rw [hd] at HR4
      rw [hd] at HWZ
      clear hd
      have HSD : Hid (Digs (⟨#[48]⟩ : ByteArray).data.toList) := Lib.hid (fun c hc => by rw [List.mem_singleton.1 (show c ∈ [(48 : UInt8)] from hc)]; decide)
      have HSL : Hid ((⟨#[48]⟩ : ByteArray).size ≤ 12) := Lib.hid (by decide)
      have HNS : Hid (decv (⟨#[48]⟩ : ByteArray).data.toList = 0) := Lib.hid (by decide)
      go_wp2_with fail
      refine (jnext_at rb s d (-1) 0 Wc HR4.out hs).mono ?_
      rw [nx_ok]
      rintro e Wd ⟨rfl, hR, hg, -⟩
      have HR5 := Lib.hid hR
      have HG5 := Lib.hid (HG4.out.trans hg)
      have HT5 := Lib.hid (Rw.rh_grown HT4.out hg HTB.out)
      clear hR hg
      go_wp2_with fail
      refine (isDigit_at (pk s d) Wd).mono ?_
      by_cases hdg : 48 ≤ pk s d ∧ pk s d ≤ 57
      · have HDG : Hid ((decide (48 ≤ pk s d) && decide (pk s d ≤ 57)) = true) := Lib.hid (by rw [decide_eq_true hdg.1, decide_eq_true hdg.2]; rfl)
        have HXB : Hid (x = .bad (dr s d) 10) := Lib.hid (by rw [← HX.out, HWZ.out.2, if_pos hdg]; rfl)
        rw [HDG.out]
        rintro e w3 ⟨rfl, hw⟩
        have hw := hw.symm
        subst hw
        clear hdg
        obtain ⟨c0, c1, c2, c3⟩ := HR5.out.c
        go_wp2_with fail
        refine (jfail_ok rb s d d 10 Wd HR5.out).mono ?_
        rintro e Wu ⟨rfl, hR, hg⟩
        have HAX : Hid (AftJ s rb w Wu x) := Lib.hid (by rw [HXB.out]; exact BadJ.at hR HQd.out HQd.out (HG5.out.trans hg))
        have HT6 := Lib.hid (Rw.rh_grown HT5.out hg HTB.out)
        clear hR hg c0 c1 c2 c3
        obtain ⟨ab, hab, hRb, _⟩ := aftj_bad HAX.out HXB.out
        go_upto_region 12 with (fail)
        obtain ⟨T, hT⟩ : ∃ T : ByteArray, (⟨#[]⟩ : ByteArray) = T := ⟨_, rfl⟩
        have HTE := Lib.hid hT
        have HTD : Hid (Digs T.data.toList) := Lib.hid (by rw [← hT]; exact fun c hc => by cases hc)
        have HTL : Hid (T.size ≤ 3) := Lib.hid (by rw [← hT]; decide)
        have HTZ0 : Hid (decv T.data.toList = 0) := Lib.hid (by rw [← hT]; rfl)
        rw [hT]
        clear hT
        go_wp2_with fail
        refine (jnext_at rb s ab _ _ Wu hRb hs).mono ?_
        rw [nx_bad s ab (Int.natCast_nonneg _)]
        rintro e Wv ⟨rfl, -, hg, hb⟩
        have HAV := Lib.hid (HAX.out.ext hb)
        clear HAX
        have HAX := HAV
        clear HAV
        have HT7 := Lib.hid (HT6.out.ext hb)
        clear hRb hg hb
        have HVX : Hid (∀ v r, x = .ok v r → v = -((decv (jnum (⟨#[48]⟩ : ByteArray) T).data.toList : Nat) : Int)) := Lib.hid (fun v r e => by rw [HXB.out] at e; cases e)
        have HSZ : Hid ((T.size : Int) ≤ 3) := Lib.hid (by have := HTL.out; omega)
        have HMX : Hid (max (wrap64 (3 - (T.size : Int))) 0 = ((3 - T.size : Nat) : Int)) := Lib.hid (by have := HSZ.out; rw [wr64 (by omega)]; omega)
        obtain ⟨zR, hzz⟩ : ∃ Z : ByteArray, (⟨(Lib.repeatL [48] (3 - T.size)).toArray⟩ : ByteArray) = Z := ⟨_, rfl⟩
        have HZA := Lib.hid (zeros_at (3 - T.size) (by omega))
        have HAT := Lib.hid (jnum_atoi (S := (⟨#[48]⟩ : ByteArray)) (T := T) HSD.out HTD.out HSL.out HTL.out)
        have hzl : zR.size ≤ 3 := by rw [← hzz, Lib.size_eq, repeatL_one]; simp
        have hjn : jnum (⟨#[48]⟩ : ByteArray) T = (⟨#[48]⟩ : ByteArray) ++ T ++ zR := by rw [← hzz]; rfl
        obtain ⟨VL, hvl⟩ : ∃ z : Nat, decv (jnum (⟨#[48]⟩ : ByteArray) T).data.toList = z := ⟨_, rfl⟩
        have HVL := Lib.hid hvl
        rw [hzz] at HZA
        rw [hvl, hjn] at HAT
        clear hvl hzz hjn
        have hr1 : ∀ W9 : World, (Op.stringOp .add (⟨#[48]⟩ : ByteArray) T).run Tryz.prog W9 = .ok (.string ((⟨#[48]⟩ : ByteArray) ++ T)) W9 := fun W9 => run_string_add_sum W9 (⟨#[48]⟩ : ByteArray) T (by have := HSL.out; have := HTL.out; omega)
        have hr2 : ∀ W9 : World, (Op.stringOp .add ((⟨#[48]⟩ : ByteArray) ++ T) zR).run Tryz.prog W9 = .ok (.string ((⟨#[48]⟩ : ByteArray) ++ T ++ zR)) W9 := fun W9 => run_string_add_sum W9 ((⟨#[48]⟩ : ByteArray) ++ T) zR (by have := HSL.out; have := HTL.out; rw [ByteArray.size_append]; omega)
        go_wp2_with fail
        rw [HMX.out]
        refine (HZA.out Wv).mono ?_
        rintro e Wy ⟨rfl, hby⟩
        have HBY := Lib.hid hby
        clear hby
        go_wp2_with fail
        refine (HAT.out Wy).mono ?_
        rintro e Wz ⟨rfl, hbz⟩
        have HAZ := Lib.hid ((HAX.out.ext HBY.out).ext hbz)
        have HTZ := Lib.hid ((HT7.out.ext HBY.out).ext hbz)
        clear hbz HAX HAT HZA
        clear hr1 hr2 hzl
        obtain ⟨M, hM⟩ : ∃ M : Int, (VL : Int) = M := ⟨_, rfl⟩
        have HMB : Hid (0 ≤ M ∧ M < 1000000000000000) := Lib.hid (by have h8 := jnum_lt HSD.out HTD.out HSL.out HTL.out; rw [HVL.out] at h8; omega)
        have HVM : Hid (∀ v r, x = .ok v r → v = (-M)) := Lib.hid (fun v r e => by rw [HVX.out v r e, HVL.out, hM])
        rw [hM]
        clear hM HVX
        have hm0 : 0 ≤ M := HMB.out.1
        have hm9 : M ≤ 9223372036854775807 := by have := HMB.out.2; omega
        have HF : Hid (NumJ s rb w x (.returned (.agg (vAr 2 (-M) eB (.slice none 0 0) (.slice none 0 0)))) (Wz.setRow w.heap.size (vAr 2 (-M) eB (.slice none 0 0) (.slice none 0 0)))) := Lib.hid ⟨(-M), by unfold i64ok; have := HMB.out; omega, rfl, HVM.out, HAZ.out.row (Nat.le_refl _) (by have := HRB.out; omega) _⟩
        go_wp2_with (refine wpList_store_row rfl _ _ _ rfl w.heap.size (vAr 2 (-M) eB (.slice none 0 0) (.slice none 0 0)) rfl rfl _ _ HTZ.out (v_inf5 _ _ _ _ _) rfl (v_all5 _ _ _ _ _ _ _ _ _) ?_)
        (try simp only [Exit.inBlock, Exit.then])
        refine bodyPost_ret (v := .agg (vAr 2 (-M) eB (.slice none 0 0) (.slice none 0 0))) (results_cell_row rfl _ _ _ _ _ _ _ rfl (HTZ.out.row _) Tryz.underlying25 rfl (v_inf5 _ _ _ _ _)) rfl HF.out
      · have HDG : Hid ((decide (48 ≤ pk s d) && decide (pk s d ≤ 57)) = false) := Lib.hid (by
          by_cases h1 : 48 ≤ pk s d
          · rw [decide_eq_false (fun h2 => hdg ⟨h1, h2⟩)]; exact Bool.and_false _
          · rw [decide_eq_false h1]; rfl)
        have HXF : Hid ((fracP 0 (dr s d)).bind (fun m t => .ok (-(m : Int)) t) = x) := Lib.hid (by rw [← HX.out, HWZ.out.2, if_neg hdg]; rfl)
        rw [HDG.out]
        rintro e w3 ⟨rfl, hw⟩
        have hw := hw.symm
        subst hw
        clear hdg
        go_upto_region 12 with (fail)
        by_cases hdot : pk s d = 46
        · have hdb : (pk s d == 46) = true := by simpa using hdot
          have HFD := Lib.hid (fracP_dot (n := 0) hdot)
          have HLD : Hid (d < s.size) := Lib.hid HFD.out.1
          clear hdot
          go_wp2_with fail
          refine (jnext_at rb s d (-1) 0 Wd HR5.out hs).mono ?_
          rw [nx_ok]
          rintro e We ⟨rfl, hR, hg, -⟩
          have HR6 := Lib.hid hR
          have HG6 := Lib.hid (HG5.out.trans hg)
          have HT6 := Lib.hid (Rw.rh_grown HT5.out hg HTB.out)
          clear hR hg
          obtain ⟨c0, c1, c2, c3⟩ := HR6.out.c
          have z1 := HR6.out.z 1
          have hai : (d : Int) < (s.size : Int) := by have := HLD.out; omega
          have ha0 : (0 : Int) ≤ (d : Int) := Int.natCast_nonneg _
          go_upto_region 14 with (fail)
          have hR : RJ (We.setCell ⟨rb, 1, none⟩ (.int .i64 ((d : Int) + 1))) rb s (d + 1) (-1) 0 := HR6.out.next (d + 1)
          have hg := gr_set We rb 1 (.int .i64 ((d : Int) + 1))
          have HR7 := Lib.hid hR
          have HG7 := Lib.hid (HG6.out.trans hg)
          have HT7 := Lib.hid (Rw.rh_grown HT6.out hg HTB.out)
          clear hR hg
          clear c0 c1 c2 c3 z1 hai ha0
          generalize We.setCell ⟨rb, 1, none⟩ (.int .i64 ((d : Int) + 1)) = Wf at *
          obtain ⟨b, hb⟩ : ∃ z, d + 1 = z := ⟨_, rfl⟩
          have HQb : Hid (b ≤ s.size) := Lib.hid (by have := HLD.out; omega)
          rw [hb] at HR7
          rw [hb] at HFD
          clear hb
          obtain ⟨y, hy⟩ : ∃ y, digP 3 0 0 (dr s b) = y := ⟨_, rfl⟩
          have HY := Lib.hid hy
          clear hy
          have hdg := jdigits_at rb s b 3 Wf HR7.out hs HQb.out (by decide)
          rw [HY.out] at hdg
          have HDG : Hid (Calls Tryz.prog 49 #[.pointer (some ⟨rb, 0, none⟩), .int .i64 3] Wf (DigJ 3 s rb Wf y)) := Lib.hid hdg
          clear hdg
          go_wp2_with fail
          refine HDG.out.mono ?_
          rintro e Wg ⟨T, rfl, htd, htl, hyv, hA⟩
          have HTD := Lib.hid htd
          have HTL := Lib.hid htl
          have HYV := Lib.hid hyv
          have HAY := Lib.hid (AftJ.tr hA HG7.out)
          have HT8 := Lib.hid (Rw.rh_grown HT7.out hA.gr HTB.out)
          clear htd htl hyv hA HDG
          have HAX : Hid (AftJ s rb w Wg x) := Lib.hid (by
            have h9 := HAY.out
            rw [← HXF.out, HFD.out.2, HY.out]
            cases hyy : y with
            | bad q er => rw [hyy] at h9; exact h9
            | ok u q => rw [hyy] at h9; exact h9)
          have HVX : Hid (∀ v r, x = .ok v r → v = -((decv (jnum (⟨#[48]⟩ : ByteArray) T).data.toList : Nat) : Int)) := Lib.hid (fun v r e => by
            rw [← HXF.out, HFD.out.2] at e
            cases hyy : y with
            | bad q er => rw [HY.out, hyy] at e; cases e
            | ok u q =>
              rw [HY.out, hyy] at e
              have e2 := HYV.out u q hyy
              simp only [Res.bind, Res.ok.injEq] at e
              rw [← e.1, e2, jnum_val HTL.out, HNS.out])
          clear HAY HYV
          have HSZ : Hid ((T.size : Int) ≤ 3) := Lib.hid (by have := HTL.out; omega)
          have HMX : Hid (max (wrap64 (3 - (T.size : Int))) 0 = ((3 - T.size : Nat) : Int)) := Lib.hid (by have := HSZ.out; rw [wr64 (by omega)]; omega)
          obtain ⟨zR, hzz⟩ : ∃ Z : ByteArray, (⟨(Lib.repeatL [48] (3 - T.size)).toArray⟩ : ByteArray) = Z := ⟨_, rfl⟩
          have HZA := Lib.hid (zeros_at (3 - T.size) (by omega))
          have HAT := Lib.hid (jnum_atoi (S := (⟨#[48]⟩ : ByteArray)) (T := T) HSD.out HTD.out HSL.out HTL.out)
          have hzl : zR.size ≤ 3 := by rw [← hzz, Lib.size_eq, repeatL_one]; simp
          have hjn : jnum (⟨#[48]⟩ : ByteArray) T = (⟨#[48]⟩ : ByteArray) ++ T ++ zR := by rw [← hzz]; rfl
          obtain ⟨VL, hvl⟩ : ∃ z : Nat, decv (jnum (⟨#[48]⟩ : ByteArray) T).data.toList = z := ⟨_, rfl⟩
          have HVL := Lib.hid hvl
          rw [hzz] at HZA
          rw [hvl, hjn] at HAT
          clear hvl hzz hjn
          have hr1 : ∀ W9 : World, (Op.stringOp .add (⟨#[48]⟩ : ByteArray) T).run Tryz.prog W9 = .ok (.string ((⟨#[48]⟩ : ByteArray) ++ T)) W9 := fun W9 => run_string_add_sum W9 (⟨#[48]⟩ : ByteArray) T (by have := HSL.out; have := HTL.out; omega)
          have hr2 : ∀ W9 : World, (Op.stringOp .add ((⟨#[48]⟩ : ByteArray) ++ T) zR).run Tryz.prog W9 = .ok (.string ((⟨#[48]⟩ : ByteArray) ++ T ++ zR)) W9 := fun W9 => run_string_add_sum W9 ((⟨#[48]⟩ : ByteArray) ++ T) zR (by have := HSL.out; have := HTL.out; rw [ByteArray.size_append]; omega)
          go_wp2_with fail
          rw [HMX.out]
          refine (HZA.out Wg).mono ?_
          rintro e Wy ⟨rfl, hby⟩
          have HBY := Lib.hid hby
          clear hby
          go_wp2_with fail
          refine (HAT.out Wy).mono ?_
          rintro e Wz ⟨rfl, hbz⟩
          have HAZ := Lib.hid ((HAX.out.ext HBY.out).ext hbz)
          have HTZ := Lib.hid ((HT8.out.ext HBY.out).ext hbz)
          clear hbz HAX HAT HZA
          clear hr1 hr2 hzl
          obtain ⟨M, hM⟩ : ∃ M : Int, (VL : Int) = M := ⟨_, rfl⟩
          have HMB : Hid (0 ≤ M ∧ M < 1000000000000000) := Lib.hid (by have h8 := jnum_lt HSD.out HTD.out HSL.out HTL.out; rw [HVL.out] at h8; omega)
          have HVM : Hid (∀ v r, x = .ok v r → v = (-M)) := Lib.hid (fun v r e => by rw [HVX.out v r e, HVL.out, hM])
          rw [hM]
          clear hM HVX
          have hm0 : 0 ≤ M := HMB.out.1
          have hm9 : M ≤ 9223372036854775807 := by have := HMB.out.2; omega
          have HF : Hid (NumJ s rb w x (.returned (.agg (vAr 2 (-M) eB (.slice none 0 0) (.slice none 0 0)))) (Wz.setRow w.heap.size (vAr 2 (-M) eB (.slice none 0 0) (.slice none 0 0)))) := Lib.hid ⟨(-M), by unfold i64ok; have := HMB.out; omega, rfl, HVM.out, HAZ.out.row (Nat.le_refl _) (by have := HRB.out; omega) _⟩
          go_wp2_with (refine wpList_store_row rfl _ _ _ rfl w.heap.size (vAr 2 (-M) eB (.slice none 0 0) (.slice none 0 0)) rfl rfl _ _ HTZ.out (v_inf5 _ _ _ _ _) rfl (v_all5 _ _ _ _ _ _ _ _ _) ?_)
          (try simp only [Exit.inBlock, Exit.then])
          refine bodyPost_ret (v := .agg (vAr 2 (-M) eB (.slice none 0 0) (.slice none 0 0))) (results_cell_row rfl _ _ _ _ _ _ _ rfl (HTZ.out.row _) Tryz.underlying25 rfl (v_inf5 _ _ _ _ _)) rfl HF.out
        · have hdb : (pk s d == 46) = false := by simpa using hdot
          have HFN := Lib.hid (fracP_no (n := 0) hdot)
          clear hdot
          obtain ⟨T, hT⟩ : ∃ T : ByteArray, (⟨#[]⟩ : ByteArray) = T := ⟨_, rfl⟩
          have HTE := Lib.hid hT
          have HTD : Hid (Digs T.data.toList) := Lib.hid (by rw [← hT]; exact fun c hc => by cases hc)
          have HTL : Hid (T.size ≤ 3) := Lib.hid (by rw [← hT]; decide)
          have HTZ0 : Hid (decv T.data.toList = 0) := Lib.hid (by rw [← hT]; rfl)
          rw [hT]
          clear hT
          go_wp2_with fail
          refine (jnext_at rb s d (-1) 0 Wd HR5.out hs).mono ?_
          rw [nx_ok]
          rintro e We ⟨rfl, hR, hg, -⟩
          have HR6 := Lib.hid hR
          have HG6 := Lib.hid (HG5.out.trans hg)
          have HT6 := Lib.hid (Rw.rh_grown HT5.out hg HTB.out)
          clear hR hg
          have HAX : Hid (AftJ s rb w We x) := Lib.hid (by
            rw [← HXF.out, HFN.out]
            exact ⟨d, HQd.out, rfl, HR6.out, HG6.out⟩)
          have HVX : Hid (∀ v r, x = .ok v r → v = -((decv (jnum (⟨#[48]⟩ : ByteArray) T).data.toList : Nat) : Int)) := Lib.hid (fun v r e => by
            rw [← HXF.out, HFN.out] at e
            simp only [Res.bind, Res.ok.injEq] at e
            rw [← e.1, jnum_val HTL.out, HNS.out, HTZ0.out]; simp)
          have HSZ : Hid ((T.size : Int) ≤ 3) := Lib.hid (by have := HTL.out; omega)
          have HMX : Hid (max (wrap64 (3 - (T.size : Int))) 0 = ((3 - T.size : Nat) : Int)) := Lib.hid (by have := HSZ.out; rw [wr64 (by omega)]; omega)
          obtain ⟨zR, hzz⟩ : ∃ Z : ByteArray, (⟨(Lib.repeatL [48] (3 - T.size)).toArray⟩ : ByteArray) = Z := ⟨_, rfl⟩
          have HZA := Lib.hid (zeros_at (3 - T.size) (by omega))
          have HAT := Lib.hid (jnum_atoi (S := (⟨#[48]⟩ : ByteArray)) (T := T) HSD.out HTD.out HSL.out HTL.out)
          have hzl : zR.size ≤ 3 := by rw [← hzz, Lib.size_eq, repeatL_one]; simp
          have hjn : jnum (⟨#[48]⟩ : ByteArray) T = (⟨#[48]⟩ : ByteArray) ++ T ++ zR := by rw [← hzz]; rfl
          obtain ⟨VL, hvl⟩ : ∃ z : Nat, decv (jnum (⟨#[48]⟩ : ByteArray) T).data.toList = z := ⟨_, rfl⟩
          have HVL := Lib.hid hvl
          rw [hzz] at HZA
          rw [hvl, hjn] at HAT
          clear hvl hzz hjn
          have hr1 : ∀ W9 : World, (Op.stringOp .add (⟨#[48]⟩ : ByteArray) T).run Tryz.prog W9 = .ok (.string ((⟨#[48]⟩ : ByteArray) ++ T)) W9 := fun W9 => run_string_add_sum W9 (⟨#[48]⟩ : ByteArray) T (by have := HSL.out; have := HTL.out; omega)
          have hr2 : ∀ W9 : World, (Op.stringOp .add ((⟨#[48]⟩ : ByteArray) ++ T) zR).run Tryz.prog W9 = .ok (.string ((⟨#[48]⟩ : ByteArray) ++ T ++ zR)) W9 := fun W9 => run_string_add_sum W9 ((⟨#[48]⟩ : ByteArray) ++ T) zR (by have := HSL.out; have := HTL.out; rw [ByteArray.size_append]; omega)
          go_wp2_with fail
          rw [HMX.out]
          refine (HZA.out We).mono ?_
          rintro e Wy ⟨rfl, hby⟩
          have HBY := Lib.hid hby
          clear hby
          go_wp2_with fail
          refine (HAT.out Wy).mono ?_
          rintro e Wz ⟨rfl, hbz⟩
          have HAZ := Lib.hid ((HAX.out.ext HBY.out).ext hbz)
          have HTZ := Lib.hid ((HT6.out.ext HBY.out).ext hbz)
          clear hbz HAX HAT HZA
          clear hr1 hr2 hzl
          obtain ⟨M, hM⟩ : ∃ M : Int, (VL : Int) = M := ⟨_, rfl⟩
          have HMB : Hid (0 ≤ M ∧ M < 1000000000000000) := Lib.hid (by have h8 := jnum_lt HSD.out HTD.out HSL.out HTL.out; rw [HVL.out] at h8; omega)
          have HVM : Hid (∀ v r, x = .ok v r → v = (-M)) := Lib.hid (fun v r e => by rw [HVX.out v r e, HVL.out, hM])
          rw [hM]
          clear hM HVX
          have hm0 : 0 ≤ M := HMB.out.1
          have hm9 : M ≤ 9223372036854775807 := by have := HMB.out.2; omega
          have HF : Hid (NumJ s rb w x (.returned (.agg (vAr 2 (-M) eB (.slice none 0 0) (.slice none 0 0)))) (Wz.setRow w.heap.size (vAr 2 (-M) eB (.slice none 0 0) (.slice none 0 0)))) := Lib.hid ⟨(-M), by unfold i64ok; have := HMB.out; omega, rfl, HVM.out, HAZ.out.row (Nat.le_refl _) (by have := HRB.out; omega) _⟩
          go_wp2_with (refine wpList_store_row rfl _ _ _ rfl w.heap.size (vAr 2 (-M) eB (.slice none 0 0) (.slice none 0 0)) rfl rfl _ _ HTZ.out (v_inf5 _ _ _ _ _) rfl (v_all5 _ _ _ _ _ _ _ _ _) ?_)
          (try simp only [Exit.inBlock, Exit.then])
          refine bodyPost_ret (v := .agg (vAr 2 (-M) eB (.slice none 0 0) (.slice none 0 0))) (results_cell_row rfl _ _ _ _ _ _ _ rfl (HTZ.out.row _) Tryz.underlying25 rfl (v_inf5 _ _ _ _ _)) rfl HF.out
    · have hzb : (pk s c == 48) = false := by simpa using hz
      have HWD := Lib.hid (wholeP_dig hz)
      clear hz
      go_wp2_with fail
      refine (jnext_at rb s c (-1) 0 Wa2 HR2.out hs).mono ?_
      rw [nx_ok]
      rintro e Wb ⟨rfl, hR, hg, -⟩
      have HR3 := Lib.hid hR
      have HG3 := Lib.hid (HG2.out.trans hg)
      have HT3 := Lib.hid (Rw.rh_grown HT2.out hg HTB.out)
      clear hR hg
      obtain ⟨y, hy⟩ : ∃ y, digP 12 0 0 (dr s c) = y := ⟨_, rfl⟩
      have HY := Lib.hid hy
      clear hy
      have hdg := jdigits_at rb s c 12 Wb HR3.out hs HQc.out (by decide)
      rw [HY.out] at hdg
      have HDG : Hid (Calls Tryz.prog 49 #[.pointer (some ⟨rb, 0, none⟩), .int .i64 12] Wb (DigJ 12 s rb Wb y)) := Lib.hid hdg
      clear hdg
      go_wp2_with fail
      refine HDG.out.mono ?_
      rintro e Wc ⟨S, rfl, hsd, hsl, hyv, hA⟩
      have HSD := Lib.hid hsd
      have HSL := Lib.hid hsl
      have HYV := Lib.hid hyv
      have HAY := Lib.hid (AftJ.tr hA HG3.out)
      have HT4 := Lib.hid (Rw.rh_grown HT3.out hA.gr HTB.out)
      clear hsd hsl hyv hA HDG
      cases hyy : y with
      | bad q er =>
        have HXB : Hid (x = .bad q er) := Lib.hid (by rw [← HX.out, HWD.out, HY.out, hyy]; rfl)
        have HAX : Hid (AftJ s rb w Wc x) := Lib.hid (by rw [HXB.out]; have h9 := HAY.out; rw [hyy] at h9; exact h9)
        clear hyy HAY HYV
        obtain ⟨ab, hab, hRb, _⟩ := aftj_bad HAX.out HXB.out
        go_upto_region 12 with (fail)
        obtain ⟨T, hT⟩ : ∃ T : ByteArray, (⟨#[]⟩ : ByteArray) = T := ⟨_, rfl⟩
        have HTE := Lib.hid hT
        have HTD : Hid (Digs T.data.toList) := Lib.hid (by rw [← hT]; exact fun c hc => by cases hc)
        have HTL : Hid (T.size ≤ 3) := Lib.hid (by rw [← hT]; decide)
        have HTZ0 : Hid (decv T.data.toList = 0) := Lib.hid (by rw [← hT]; rfl)
        rw [hT]
        clear hT
        go_wp2_with fail
        refine (jnext_at rb s ab _ _ Wc hRb hs).mono ?_
        rw [nx_bad s ab (Int.natCast_nonneg _)]
        rintro e Wv ⟨rfl, -, hg, hb⟩
        have HAV := Lib.hid (HAX.out.ext hb)
        clear HAX
        have HAX := HAV
        clear HAV
        have HT5 := Lib.hid (HT4.out.ext hb)
        clear hRb hg hb
        have HVX : Hid (∀ v r, x = .ok v r → v = -((decv (jnum S T).data.toList : Nat) : Int)) := Lib.hid (fun v r e => by rw [HXB.out] at e; cases e)
        have HSZ : Hid ((T.size : Int) ≤ 3) := Lib.hid (by have := HTL.out; omega)
        have HMX : Hid (max (wrap64 (3 - (T.size : Int))) 0 = ((3 - T.size : Nat) : Int)) := Lib.hid (by have := HSZ.out; rw [wr64 (by omega)]; omega)
        obtain ⟨zR, hzz⟩ : ∃ Z : ByteArray, (⟨(Lib.repeatL [48] (3 - T.size)).toArray⟩ : ByteArray) = Z := ⟨_, rfl⟩
        have HZA := Lib.hid (zeros_at (3 - T.size) (by omega))
        have HAT := Lib.hid (jnum_atoi (S := S) (T := T) HSD.out HTD.out HSL.out HTL.out)
        have hzl : zR.size ≤ 3 := by rw [← hzz, Lib.size_eq, repeatL_one]; simp
        have hjn : jnum S T = S ++ T ++ zR := by rw [← hzz]; rfl
        obtain ⟨VL, hvl⟩ : ∃ z : Nat, decv (jnum S T).data.toList = z := ⟨_, rfl⟩
        have HVL := Lib.hid hvl
        rw [hzz] at HZA
        rw [hvl, hjn] at HAT
        clear hvl hzz hjn
        have hr1 : ∀ W9 : World, (Op.stringOp .add S T).run Tryz.prog W9 = .ok (.string (S ++ T)) W9 := fun W9 => run_string_add_sum W9 S T (by have := HSL.out; have := HTL.out; omega)
        have hr2 : ∀ W9 : World, (Op.stringOp .add (S ++ T) zR).run Tryz.prog W9 = .ok (.string (S ++ T ++ zR)) W9 := fun W9 => run_string_add_sum W9 (S ++ T) zR (by have := HSL.out; have := HTL.out; rw [ByteArray.size_append]; omega)
        go_wp2_with fail
        rw [HMX.out]
        refine (HZA.out Wv).mono ?_
        rintro e Wy ⟨rfl, hby⟩
        have HBY := Lib.hid hby
        clear hby
        go_wp2_with fail
        refine (HAT.out Wy).mono ?_
        rintro e Wz ⟨rfl, hbz⟩
        have HAZ := Lib.hid ((HAX.out.ext HBY.out).ext hbz)
        have HTZ := Lib.hid ((HT5.out.ext HBY.out).ext hbz)
        clear hbz HAX HAT HZA
        clear hr1 hr2 hzl
        obtain ⟨M, hM⟩ : ∃ M : Int, (VL : Int) = M := ⟨_, rfl⟩
        have HMB : Hid (0 ≤ M ∧ M < 1000000000000000) := Lib.hid (by have h8 := jnum_lt HSD.out HTD.out HSL.out HTL.out; rw [HVL.out] at h8; omega)
        have HVM : Hid (∀ v r, x = .ok v r → v = (-M)) := Lib.hid (fun v r e => by rw [HVX.out v r e, HVL.out, hM])
        rw [hM]
        clear hM HVX
        have hm0 : 0 ≤ M := HMB.out.1
        have hm9 : M ≤ 9223372036854775807 := by have := HMB.out.2; omega
        have HF : Hid (NumJ s rb w x (.returned (.agg (vAr 2 (-M) eB (.slice none 0 0) (.slice none 0 0)))) (Wz.setRow w.heap.size (vAr 2 (-M) eB (.slice none 0 0) (.slice none 0 0)))) := Lib.hid ⟨(-M), by unfold i64ok; have := HMB.out; omega, rfl, HVM.out, HAZ.out.row (Nat.le_refl _) (by have := HRB.out; omega) _⟩
        go_wp2_with (refine wpList_store_row rfl _ _ _ rfl w.heap.size (vAr 2 (-M) eB (.slice none 0 0) (.slice none 0 0)) rfl rfl _ _ HTZ.out (v_inf5 _ _ _ _ _) rfl (v_all5 _ _ _ _ _ _ _ _ _) ?_)
        (try simp only [Exit.inBlock, Exit.then])
        refine bodyPost_ret (v := .agg (vAr 2 (-M) eB (.slice none 0 0) (.slice none 0 0))) (results_cell_row rfl _ _ _ _ _ _ _ rfl (HTZ.out.row _) Tryz.underlying25 rfl (v_inf5 _ _ _ _ _)) rfl HF.out
      | ok u q =>
        have HXF0 : Hid ((fracP (decv S.data.toList) q).bind (fun m t => .ok (-(m : Int)) t) = x) := Lib.hid (by
          have e2 := HYV.out u q hyy
          rw [← HX.out, HWD.out, HY.out, hyy, e2]; rfl)
        have h9 := HAY.out
        rw [hyy] at h9
        obtain ⟨d, hdl, hdq, hRd, hgd⟩ := h9
        have HQd := Lib.hid hdl
        have HR4 := Lib.hid hRd
        have HG4 := Lib.hid hgd
        have HXF : Hid ((fracP (decv S.data.toList) (dr s d)).bind (fun m t => .ok (-(m : Int)) t) = x) := Lib.hid (by rw [hdq]; exact HXF0.out)
        clear HXF0 hyy hdq hRd hgd HAY HYV
        go_upto_region 12 with (fail)
        by_cases hdot : pk s d = 46
        · have hdb : (pk s d == 46) = true := by simpa using hdot
          have HFD := Lib.hid (fracP_dot (n := (decv S.data.toList)) hdot)
          have HLD : Hid (d < s.size) := Lib.hid HFD.out.1
          clear hdot
          go_wp2_with fail
          refine (jnext_at rb s d (-1) 0 Wc HR4.out hs).mono ?_
          rw [nx_ok]
          rintro e We ⟨rfl, hR, hg, -⟩
          have HR5 := Lib.hid hR
          have HG5 := Lib.hid (HG4.out.trans hg)
          have HT5 := Lib.hid (Rw.rh_grown HT4.out hg HTB.out)
          clear hR hg
          obtain ⟨c0, c1, c2, c3⟩ := HR5.out.c
          have z1 := HR5.out.z 1
          have hai : (d : Int) < (s.size : Int) := by have := HLD.out; omega
          have ha0 : (0 : Int) ≤ (d : Int) := Int.natCast_nonneg _
          go_upto_region 14 with (fail)
          have hR : RJ (We.setCell ⟨rb, 1, none⟩ (.int .i64 ((d : Int) + 1))) rb s (d + 1) (-1) 0 := HR5.out.next (d + 1)
          have hg := gr_set We rb 1 (.int .i64 ((d : Int) + 1))
          have HR6 := Lib.hid hR
          have HG6 := Lib.hid (HG5.out.trans hg)
          have HT6 := Lib.hid (Rw.rh_grown HT5.out hg HTB.out)
          clear hR hg
          clear c0 c1 c2 c3 z1 hai ha0
          generalize We.setCell ⟨rb, 1, none⟩ (.int .i64 ((d : Int) + 1)) = Wf at *
          obtain ⟨b, hb⟩ : ∃ z, d + 1 = z := ⟨_, rfl⟩
          have HQb : Hid (b ≤ s.size) := Lib.hid (by have := HLD.out; omega)
          rw [hb] at HR6
          rw [hb] at HFD
          clear hb
          obtain ⟨y, hy⟩ : ∃ y, digP 3 0 0 (dr s b) = y := ⟨_, rfl⟩
          have HY := Lib.hid hy
          clear hy
          have hdg := jdigits_at rb s b 3 Wf HR6.out hs HQb.out (by decide)
          rw [HY.out] at hdg
          have HDG : Hid (Calls Tryz.prog 49 #[.pointer (some ⟨rb, 0, none⟩), .int .i64 3] Wf (DigJ 3 s rb Wf y)) := Lib.hid hdg
          clear hdg
          go_wp2_with fail
          refine HDG.out.mono ?_
          rintro e Wg ⟨T, rfl, htd, htl, hyv, hA⟩
          have HTD := Lib.hid htd
          have HTL := Lib.hid htl
          have HYV := Lib.hid hyv
          have HAY := Lib.hid (AftJ.tr hA HG6.out)
          have HT7 := Lib.hid (Rw.rh_grown HT6.out hA.gr HTB.out)
          clear htd htl hyv hA HDG
          have HAX : Hid (AftJ s rb w Wg x) := Lib.hid (by
            have h9 := HAY.out
            rw [← HXF.out, HFD.out.2, HY.out]
            cases hyy : y with
            | bad q er => rw [hyy] at h9; exact h9
            | ok u q => rw [hyy] at h9; exact h9)
          have HVX : Hid (∀ v r, x = .ok v r → v = -((decv (jnum S T).data.toList : Nat) : Int)) := Lib.hid (fun v r e => by
            rw [← HXF.out, HFD.out.2] at e
            cases hyy : y with
            | bad q er => rw [HY.out, hyy] at e; cases e
            | ok u q =>
              rw [HY.out, hyy] at e
              have e2 := HYV.out u q hyy
              simp only [Res.bind, Res.ok.injEq] at e
              rw [← e.1, e2, jnum_val HTL.out])
          clear HAY HYV
          have HSZ : Hid ((T.size : Int) ≤ 3) := Lib.hid (by have := HTL.out; omega)
          have HMX : Hid (max (wrap64 (3 - (T.size : Int))) 0 = ((3 - T.size : Nat) : Int)) := Lib.hid (by have := HSZ.out; rw [wr64 (by omega)]; omega)
          obtain ⟨zR, hzz⟩ : ∃ Z : ByteArray, (⟨(Lib.repeatL [48] (3 - T.size)).toArray⟩ : ByteArray) = Z := ⟨_, rfl⟩
          have HZA := Lib.hid (zeros_at (3 - T.size) (by omega))
          have HAT := Lib.hid (jnum_atoi (S := S) (T := T) HSD.out HTD.out HSL.out HTL.out)
          have hzl : zR.size ≤ 3 := by rw [← hzz, Lib.size_eq, repeatL_one]; simp
          have hjn : jnum S T = S ++ T ++ zR := by rw [← hzz]; rfl
          obtain ⟨VL, hvl⟩ : ∃ z : Nat, decv (jnum S T).data.toList = z := ⟨_, rfl⟩
          have HVL := Lib.hid hvl
          rw [hzz] at HZA
          rw [hvl, hjn] at HAT
          clear hvl hzz hjn
          have hr1 : ∀ W9 : World, (Op.stringOp .add S T).run Tryz.prog W9 = .ok (.string (S ++ T)) W9 := fun W9 => run_string_add_sum W9 S T (by have := HSL.out; have := HTL.out; omega)
          have hr2 : ∀ W9 : World, (Op.stringOp .add (S ++ T) zR).run Tryz.prog W9 = .ok (.string (S ++ T ++ zR)) W9 := fun W9 => run_string_add_sum W9 (S ++ T) zR (by have := HSL.out; have := HTL.out; rw [ByteArray.size_append]; omega)
          go_wp2_with fail
          rw [HMX.out]
          refine (HZA.out Wg).mono ?_
          rintro e Wy ⟨rfl, hby⟩
          have HBY := Lib.hid hby
          clear hby
          go_wp2_with fail
          refine (HAT.out Wy).mono ?_
          rintro e Wz ⟨rfl, hbz⟩
          have HAZ := Lib.hid ((HAX.out.ext HBY.out).ext hbz)
          have HTZ := Lib.hid ((HT7.out.ext HBY.out).ext hbz)
          clear hbz HAX HAT HZA
          clear hr1 hr2 hzl
          obtain ⟨M, hM⟩ : ∃ M : Int, (VL : Int) = M := ⟨_, rfl⟩
          have HMB : Hid (0 ≤ M ∧ M < 1000000000000000) := Lib.hid (by have h8 := jnum_lt HSD.out HTD.out HSL.out HTL.out; rw [HVL.out] at h8; omega)
          have HVM : Hid (∀ v r, x = .ok v r → v = (-M)) := Lib.hid (fun v r e => by rw [HVX.out v r e, HVL.out, hM])
          rw [hM]
          clear hM HVX
          have hm0 : 0 ≤ M := HMB.out.1
          have hm9 : M ≤ 9223372036854775807 := by have := HMB.out.2; omega
          have HF : Hid (NumJ s rb w x (.returned (.agg (vAr 2 (-M) eB (.slice none 0 0) (.slice none 0 0)))) (Wz.setRow w.heap.size (vAr 2 (-M) eB (.slice none 0 0) (.slice none 0 0)))) := Lib.hid ⟨(-M), by unfold i64ok; have := HMB.out; omega, rfl, HVM.out, HAZ.out.row (Nat.le_refl _) (by have := HRB.out; omega) _⟩
          go_wp2_with (refine wpList_store_row rfl _ _ _ rfl w.heap.size (vAr 2 (-M) eB (.slice none 0 0) (.slice none 0 0)) rfl rfl _ _ HTZ.out (v_inf5 _ _ _ _ _) rfl (v_all5 _ _ _ _ _ _ _ _ _) ?_)
          (try simp only [Exit.inBlock, Exit.then])
          refine bodyPost_ret (v := .agg (vAr 2 (-M) eB (.slice none 0 0) (.slice none 0 0))) (results_cell_row rfl _ _ _ _ _ _ _ rfl (HTZ.out.row _) Tryz.underlying25 rfl (v_inf5 _ _ _ _ _)) rfl HF.out
        · have hdb : (pk s d == 46) = false := by simpa using hdot
          have HFN := Lib.hid (fracP_no (n := (decv S.data.toList)) hdot)
          clear hdot
          obtain ⟨T, hT⟩ : ∃ T : ByteArray, (⟨#[]⟩ : ByteArray) = T := ⟨_, rfl⟩
          have HTE := Lib.hid hT
          have HTD : Hid (Digs T.data.toList) := Lib.hid (by rw [← hT]; exact fun c hc => by cases hc)
          have HTL : Hid (T.size ≤ 3) := Lib.hid (by rw [← hT]; decide)
          have HTZ0 : Hid (decv T.data.toList = 0) := Lib.hid (by rw [← hT]; rfl)
          rw [hT]
          clear hT
          go_wp2_with fail
          refine (jnext_at rb s d (-1) 0 Wc HR4.out hs).mono ?_
          rw [nx_ok]
          rintro e We ⟨rfl, hR, hg, -⟩
          have HR5 := Lib.hid hR
          have HG5 := Lib.hid (HG4.out.trans hg)
          have HT5 := Lib.hid (Rw.rh_grown HT4.out hg HTB.out)
          clear hR hg
          have HAX : Hid (AftJ s rb w We x) := Lib.hid (by
            rw [← HXF.out, HFN.out]
            exact ⟨d, HQd.out, rfl, HR5.out, HG5.out⟩)
          have HVX : Hid (∀ v r, x = .ok v r → v = -((decv (jnum S T).data.toList : Nat) : Int)) := Lib.hid (fun v r e => by
            rw [← HXF.out, HFN.out] at e
            simp only [Res.bind, Res.ok.injEq] at e
            rw [← e.1, jnum_val HTL.out, HTZ0.out]; simp)
          have HSZ : Hid ((T.size : Int) ≤ 3) := Lib.hid (by have := HTL.out; omega)
          have HMX : Hid (max (wrap64 (3 - (T.size : Int))) 0 = ((3 - T.size : Nat) : Int)) := Lib.hid (by have := HSZ.out; rw [wr64 (by omega)]; omega)
          obtain ⟨zR, hzz⟩ : ∃ Z : ByteArray, (⟨(Lib.repeatL [48] (3 - T.size)).toArray⟩ : ByteArray) = Z := ⟨_, rfl⟩
          have HZA := Lib.hid (zeros_at (3 - T.size) (by omega))
          have HAT := Lib.hid (jnum_atoi (S := S) (T := T) HSD.out HTD.out HSL.out HTL.out)
          have hzl : zR.size ≤ 3 := by rw [← hzz, Lib.size_eq, repeatL_one]; simp
          have hjn : jnum S T = S ++ T ++ zR := by rw [← hzz]; rfl
          obtain ⟨VL, hvl⟩ : ∃ z : Nat, decv (jnum S T).data.toList = z := ⟨_, rfl⟩
          have HVL := Lib.hid hvl
          rw [hzz] at HZA
          rw [hvl, hjn] at HAT
          clear hvl hzz hjn
          have hr1 : ∀ W9 : World, (Op.stringOp .add S T).run Tryz.prog W9 = .ok (.string (S ++ T)) W9 := fun W9 => run_string_add_sum W9 S T (by have := HSL.out; have := HTL.out; omega)
          have hr2 : ∀ W9 : World, (Op.stringOp .add (S ++ T) zR).run Tryz.prog W9 = .ok (.string (S ++ T ++ zR)) W9 := fun W9 => run_string_add_sum W9 (S ++ T) zR (by have := HSL.out; have := HTL.out; rw [ByteArray.size_append]; omega)
          go_wp2_with fail
          rw [HMX.out]
          refine (HZA.out We).mono ?_
          rintro e Wy ⟨rfl, hby⟩
          have HBY := Lib.hid hby
          clear hby
          go_wp2_with fail
          refine (HAT.out Wy).mono ?_
          rintro e Wz ⟨rfl, hbz⟩
          have HAZ := Lib.hid ((HAX.out.ext HBY.out).ext hbz)
          have HTZ := Lib.hid ((HT5.out.ext HBY.out).ext hbz)
          clear hbz HAX HAT HZA
          clear hr1 hr2 hzl
          obtain ⟨M, hM⟩ : ∃ M : Int, (VL : Int) = M := ⟨_, rfl⟩
          have HMB : Hid (0 ≤ M ∧ M < 1000000000000000) := Lib.hid (by have h8 := jnum_lt HSD.out HTD.out HSL.out HTL.out; rw [HVL.out] at h8; omega)
          have HVM : Hid (∀ v r, x = .ok v r → v = (-M)) := Lib.hid (fun v r e => by rw [HVX.out v r e, HVL.out, hM])
          rw [hM]
          clear hM HVX
          have hm0 : 0 ≤ M := HMB.out.1
          have hm9 : M ≤ 9223372036854775807 := by have := HMB.out.2; omega
          have HF : Hid (NumJ s rb w x (.returned (.agg (vAr 2 (-M) eB (.slice none 0 0) (.slice none 0 0)))) (Wz.setRow w.heap.size (vAr 2 (-M) eB (.slice none 0 0) (.slice none 0 0)))) := Lib.hid ⟨(-M), by unfold i64ok; have := HMB.out; omega, rfl, HVM.out, HAZ.out.row (Nat.le_refl _) (by have := HRB.out; omega) _⟩
          go_wp2_with (refine wpList_store_row rfl _ _ _ rfl w.heap.size (vAr 2 (-M) eB (.slice none 0 0) (.slice none 0 0)) rfl rfl _ _ HTZ.out (v_inf5 _ _ _ _ _) rfl (v_all5 _ _ _ _ _ _ _ _ _) ?_)
          (try simp only [Exit.inBlock, Exit.then])
          refine bodyPost_ret (v := .agg (vAr 2 (-M) eB (.slice none 0 0) (.slice none 0 0))) (results_cell_row rfl _ _ _ _ _ _ _ rfl (HTZ.out.row _) Tryz.underlying25 rfl (v_inf5 _ _ _ _ _)) rfl HF.out
  · have hmb : (pk s a == 45) = false := by simpa using hm
    have HQa : Hid (a ≤ s.size) := Lib.hid ha
    replace HX := Lib.hid ((numP_pos hm).symm.trans HX.out)
    clear hm
    go_wp2_with fail
    refine (jnext_at rb s a (-1) 0 W HR0.out hs).mono ?_
    rw [nx_ok]
    rintro e Wa ⟨rfl, hR, hg, -⟩
    have HR1 := Lib.hid hR
    have HG1 := Lib.hid (HG0.out.trans hg)
    have HT1 := Lib.hid (Rw.rh_grown HT0.out hg HTB.out)
    clear hR hg
    go_upto_region 5 with (fail)
    by_cases hz : pk s a = 48
    · have hzb : (pk s a == 48) = true := by simpa using hz
      have HWZ := Lib.hid (wholeP_zero hz)
      have HLA : Hid (a < s.size) := Lib.hid HWZ.out.1
      clear hz
      go_wp2_with fail
      refine (jnext_at rb s a (-1) 0 Wa HR1.out hs).mono ?_
      rw [nx_ok]
      rintro e Wb ⟨rfl, hR, hg, -⟩
      have HR2 := Lib.hid hR
      have HG2 := Lib.hid (HG1.out.trans hg)
      have HT2 := Lib.hid (Rw.rh_grown HT1.out hg HTB.out)
      clear hR hg
      obtain ⟨c0, c1, c2, c3⟩ := HR2.out.c
      have z1 := HR2.out.z 1
      have hai : (a : Int) < (s.size : Int) := by have := HLA.out; omega
      have ha0 : (0 : Int) ≤ (a : Int) := Int.natCast_nonneg _
      go_upto_region 8 with (fail)
      have hR : RJ (Wb.setCell ⟨rb, 1, none⟩ (.int .i64 ((a : Int) + 1))) rb s (a + 1) (-1) 0 := HR2.out.next (a + 1)
      have hg := gr_set Wb rb 1 (.int .i64 ((a : Int) + 1))
      have HR3 := Lib.hid hR
      have HG3 := Lib.hid (HG2.out.trans hg)
      have HT3 := Lib.hid (Rw.rh_grown HT2.out hg HTB.out)
      clear hR hg
      clear c0 c1 c2 c3 z1 hai ha0
      generalize Wb.setCell ⟨rb, 1, none⟩ (.int .i64 ((a : Int) + 1)) = Wc at *
      obtain ⟨d, hd⟩ : ∃ z, a + 1 = z := ⟨_, rfl⟩
      have HQd : Hid (d ≤ s.size) := Lib.hid (by have := HLA.out; omega)
      rw [hd] at HR3
      rw [hd] at HWZ
      clear hd
      have HSD : Hid (Digs (⟨#[48]⟩ : ByteArray).data.toList) := Lib.hid (fun c hc => by rw [List.mem_singleton.1 (show c ∈ [(48 : UInt8)] from hc)]; decide)
      have HSL : Hid ((⟨#[48]⟩ : ByteArray).size ≤ 12) := Lib.hid (by decide)
      have HNS : Hid (decv (⟨#[48]⟩ : ByteArray).data.toList = 0) := Lib.hid (by decide)
      go_wp2_with fail
      refine (jnext_at rb s d (-1) 0 Wc HR3.out hs).mono ?_
      rw [nx_ok]
      rintro e Wd ⟨rfl, hR, hg, -⟩
      have HR4 := Lib.hid hR
      have HG4 := Lib.hid (HG3.out.trans hg)
      have HT4 := Lib.hid (Rw.rh_grown HT3.out hg HTB.out)
      clear hR hg
      go_wp2_with fail
      refine (isDigit_at (pk s d) Wd).mono ?_
      by_cases hdg : 48 ≤ pk s d ∧ pk s d ≤ 57
      · have HDG : Hid ((decide (48 ≤ pk s d) && decide (pk s d ≤ 57)) = true) := Lib.hid (by rw [decide_eq_true hdg.1, decide_eq_true hdg.2]; rfl)
        have HXB : Hid (x = .bad (dr s d) 10) := Lib.hid (by rw [← HX.out, HWZ.out.2, if_pos hdg]; rfl)
        rw [HDG.out]
        rintro e w3 ⟨rfl, hw⟩
        have hw := hw.symm
        subst hw
        clear hdg
        obtain ⟨c0, c1, c2, c3⟩ := HR4.out.c
        go_wp2_with fail
        refine (jfail_ok rb s d d 10 Wd HR4.out).mono ?_
        rintro e Wu ⟨rfl, hR, hg⟩
        have HAX : Hid (AftJ s rb w Wu x) := Lib.hid (by rw [HXB.out]; exact BadJ.at hR HQd.out HQd.out (HG4.out.trans hg))
        have HT5 := Lib.hid (Rw.rh_grown HT4.out hg HTB.out)
        clear hR hg c0 c1 c2 c3
        obtain ⟨ab, hab, hRb, _⟩ := aftj_bad HAX.out HXB.out
        go_upto_region 12 with (fail)
        obtain ⟨T, hT⟩ : ∃ T : ByteArray, (⟨#[]⟩ : ByteArray) = T := ⟨_, rfl⟩
        have HTE := Lib.hid hT
        have HTD : Hid (Digs T.data.toList) := Lib.hid (by rw [← hT]; exact fun c hc => by cases hc)
        have HTL : Hid (T.size ≤ 3) := Lib.hid (by rw [← hT]; decide)
        have HTZ0 : Hid (decv T.data.toList = 0) := Lib.hid (by rw [← hT]; rfl)
        rw [hT]
        clear hT
        go_wp2_with fail
        refine (jnext_at rb s ab _ _ Wu hRb hs).mono ?_
        rw [nx_bad s ab (Int.natCast_nonneg _)]
        rintro e Wv ⟨rfl, -, hg, hb⟩
        have HAV := Lib.hid (HAX.out.ext hb)
        clear HAX
        have HAX := HAV
        clear HAV
        have HT6 := Lib.hid (HT5.out.ext hb)
        clear hRb hg hb
        have HVX : Hid (∀ v r, x = .ok v r → v = ((decv (jnum (⟨#[48]⟩ : ByteArray) T).data.toList : Nat) : Int)) := Lib.hid (fun v r e => by rw [HXB.out] at e; cases e)
        have HSZ : Hid ((T.size : Int) ≤ 3) := Lib.hid (by have := HTL.out; omega)
        have HMX : Hid (max (wrap64 (3 - (T.size : Int))) 0 = ((3 - T.size : Nat) : Int)) := Lib.hid (by have := HSZ.out; rw [wr64 (by omega)]; omega)
        obtain ⟨zR, hzz⟩ : ∃ Z : ByteArray, (⟨(Lib.repeatL [48] (3 - T.size)).toArray⟩ : ByteArray) = Z := ⟨_, rfl⟩
        have HZA := Lib.hid (zeros_at (3 - T.size) (by omega))
        have HAT := Lib.hid (jnum_atoi (S := (⟨#[48]⟩ : ByteArray)) (T := T) HSD.out HTD.out HSL.out HTL.out)
        have hzl : zR.size ≤ 3 := by rw [← hzz, Lib.size_eq, repeatL_one]; simp
        have hjn : jnum (⟨#[48]⟩ : ByteArray) T = (⟨#[48]⟩ : ByteArray) ++ T ++ zR := by rw [← hzz]; rfl
        obtain ⟨VL, hvl⟩ : ∃ z : Nat, decv (jnum (⟨#[48]⟩ : ByteArray) T).data.toList = z := ⟨_, rfl⟩
        have HVL := Lib.hid hvl
        rw [hzz] at HZA
        rw [hvl, hjn] at HAT
        clear hvl hzz hjn
        have hr1 : ∀ W9 : World, (Op.stringOp .add (⟨#[48]⟩ : ByteArray) T).run Tryz.prog W9 = .ok (.string ((⟨#[48]⟩ : ByteArray) ++ T)) W9 := fun W9 => run_string_add_sum W9 (⟨#[48]⟩ : ByteArray) T (by have := HSL.out; have := HTL.out; omega)
        have hr2 : ∀ W9 : World, (Op.stringOp .add ((⟨#[48]⟩ : ByteArray) ++ T) zR).run Tryz.prog W9 = .ok (.string ((⟨#[48]⟩ : ByteArray) ++ T ++ zR)) W9 := fun W9 => run_string_add_sum W9 ((⟨#[48]⟩ : ByteArray) ++ T) zR (by have := HSL.out; have := HTL.out; rw [ByteArray.size_append]; omega)
        go_wp2_with fail
        rw [HMX.out]
        refine (HZA.out Wv).mono ?_
        rintro e Wy ⟨rfl, hby⟩
        have HBY := Lib.hid hby
        clear hby
        go_wp2_with fail
        refine (HAT.out Wy).mono ?_
        rintro e Wz ⟨rfl, hbz⟩
        have HAZ := Lib.hid ((HAX.out.ext HBY.out).ext hbz)
        have HTZ := Lib.hid ((HT6.out.ext HBY.out).ext hbz)
        clear hbz HAX HAT HZA
        clear hr1 hr2 hzl
        obtain ⟨M, hM⟩ : ∃ M : Int, (VL : Int) = M := ⟨_, rfl⟩
        have HMB : Hid (0 ≤ M ∧ M < 1000000000000000) := Lib.hid (by have h8 := jnum_lt HSD.out HTD.out HSL.out HTL.out; rw [HVL.out] at h8; omega)
        have HVM : Hid (∀ v r, x = .ok v r → v = M) := Lib.hid (fun v r e => by rw [HVX.out v r e, HVL.out, hM])
        rw [hM]
        clear hM HVX
        have hm0 : 0 ≤ M := HMB.out.1
        have hm9 : M ≤ 9223372036854775807 := by have := HMB.out.2; omega
        have HF : Hid (NumJ s rb w x (.returned (.agg (vAr 2 M eB (.slice none 0 0) (.slice none 0 0)))) (Wz.setRow w.heap.size (vAr 2 M eB (.slice none 0 0) (.slice none 0 0)))) := Lib.hid ⟨M, by unfold i64ok; have := HMB.out; omega, rfl, HVM.out, HAZ.out.row (Nat.le_refl _) (by have := HRB.out; omega) _⟩
        go_wp2_with (refine wpList_store_row rfl _ _ _ rfl w.heap.size (vAr 2 M eB (.slice none 0 0) (.slice none 0 0)) rfl rfl _ _ HTZ.out (v_inf5 _ _ _ _ _) rfl (v_all5 _ _ _ _ _ _ _ _ _) ?_)
        (try simp only [Exit.inBlock, Exit.then])
        refine bodyPost_ret (v := .agg (vAr 2 M eB (.slice none 0 0) (.slice none 0 0))) (results_cell_row rfl _ _ _ _ _ _ _ rfl (HTZ.out.row _) Tryz.underlying25 rfl (v_inf5 _ _ _ _ _)) rfl HF.out
      · have HDG : Hid ((decide (48 ≤ pk s d) && decide (pk s d ≤ 57)) = false) := Lib.hid (by
          by_cases h1 : 48 ≤ pk s d
          · rw [decide_eq_false (fun h2 => hdg ⟨h1, h2⟩)]; exact Bool.and_false _
          · rw [decide_eq_false h1]; rfl)
        have HXF : Hid ((fracP 0 (dr s d)).bind (fun m t => .ok ((m : Int)) t) = x) := Lib.hid (by rw [← HX.out, HWZ.out.2, if_neg hdg]; rfl)
        rw [HDG.out]
        rintro e w3 ⟨rfl, hw⟩
        have hw := hw.symm
        subst hw
        clear hdg
        go_upto_region 12 with (fail)
        by_cases hdot : pk s d = 46
        · have hdb : (pk s d == 46) = true := by simpa using hdot
          have HFD := Lib.hid (fracP_dot (n := 0) hdot)
          have HLD : Hid (d < s.size) := Lib.hid HFD.out.1
          clear hdot
          go_wp2_with fail
          refine (jnext_at rb s d (-1) 0 Wd HR4.out hs).mono ?_
          rw [nx_ok]
          rintro e We ⟨rfl, hR, hg, -⟩
          have HR5 := Lib.hid hR
          have HG5 := Lib.hid (HG4.out.trans hg)
          have HT5 := Lib.hid (Rw.rh_grown HT4.out hg HTB.out)
          clear hR hg
          obtain ⟨c0, c1, c2, c3⟩ := HR5.out.c
          have z1 := HR5.out.z 1
          have hai : (d : Int) < (s.size : Int) := by have := HLD.out; omega
          have ha0 : (0 : Int) ≤ (d : Int) := Int.natCast_nonneg _
          go_upto_region 14 with (fail)
          have hR : RJ (We.setCell ⟨rb, 1, none⟩ (.int .i64 ((d : Int) + 1))) rb s (d + 1) (-1) 0 := HR5.out.next (d + 1)
          have hg := gr_set We rb 1 (.int .i64 ((d : Int) + 1))
          have HR6 := Lib.hid hR
          have HG6 := Lib.hid (HG5.out.trans hg)
          have HT6 := Lib.hid (Rw.rh_grown HT5.out hg HTB.out)
          clear hR hg
          clear c0 c1 c2 c3 z1 hai ha0
          generalize We.setCell ⟨rb, 1, none⟩ (.int .i64 ((d : Int) + 1)) = Wf at *
          obtain ⟨b, hb⟩ : ∃ z, d + 1 = z := ⟨_, rfl⟩
          have HQb : Hid (b ≤ s.size) := Lib.hid (by have := HLD.out; omega)
          rw [hb] at HR6
          rw [hb] at HFD
          clear hb
          obtain ⟨y, hy⟩ : ∃ y, digP 3 0 0 (dr s b) = y := ⟨_, rfl⟩
          have HY := Lib.hid hy
          clear hy
          have hdg := jdigits_at rb s b 3 Wf HR6.out hs HQb.out (by decide)
          rw [HY.out] at hdg
          have HDG : Hid (Calls Tryz.prog 49 #[.pointer (some ⟨rb, 0, none⟩), .int .i64 3] Wf (DigJ 3 s rb Wf y)) := Lib.hid hdg
          clear hdg
          go_wp2_with fail
          refine HDG.out.mono ?_
          rintro e Wg ⟨T, rfl, htd, htl, hyv, hA⟩
          have HTD := Lib.hid htd
          have HTL := Lib.hid htl
          have HYV := Lib.hid hyv
          have HAY := Lib.hid (AftJ.tr hA HG6.out)
          have HT7 := Lib.hid (Rw.rh_grown HT6.out hA.gr HTB.out)
          clear htd htl hyv hA HDG
          have HAX : Hid (AftJ s rb w Wg x) := Lib.hid (by
            have h9 := HAY.out
            rw [← HXF.out, HFD.out.2, HY.out]
            cases hyy : y with
            | bad q er => rw [hyy] at h9; exact h9
            | ok u q => rw [hyy] at h9; exact h9)
          have HVX : Hid (∀ v r, x = .ok v r → v = ((decv (jnum (⟨#[48]⟩ : ByteArray) T).data.toList : Nat) : Int)) := Lib.hid (fun v r e => by
            rw [← HXF.out, HFD.out.2] at e
            cases hyy : y with
            | bad q er => rw [HY.out, hyy] at e; cases e
            | ok u q =>
              rw [HY.out, hyy] at e
              have e2 := HYV.out u q hyy
              simp only [Res.bind, Res.ok.injEq] at e
              rw [← e.1, e2, jnum_val HTL.out, HNS.out])
          clear HAY HYV
          have HSZ : Hid ((T.size : Int) ≤ 3) := Lib.hid (by have := HTL.out; omega)
          have HMX : Hid (max (wrap64 (3 - (T.size : Int))) 0 = ((3 - T.size : Nat) : Int)) := Lib.hid (by have := HSZ.out; rw [wr64 (by omega)]; omega)
          obtain ⟨zR, hzz⟩ : ∃ Z : ByteArray, (⟨(Lib.repeatL [48] (3 - T.size)).toArray⟩ : ByteArray) = Z := ⟨_, rfl⟩
          have HZA := Lib.hid (zeros_at (3 - T.size) (by omega))
          have HAT := Lib.hid (jnum_atoi (S := (⟨#[48]⟩ : ByteArray)) (T := T) HSD.out HTD.out HSL.out HTL.out)
          have hzl : zR.size ≤ 3 := by rw [← hzz, Lib.size_eq, repeatL_one]; simp
          have hjn : jnum (⟨#[48]⟩ : ByteArray) T = (⟨#[48]⟩ : ByteArray) ++ T ++ zR := by rw [← hzz]; rfl
          obtain ⟨VL, hvl⟩ : ∃ z : Nat, decv (jnum (⟨#[48]⟩ : ByteArray) T).data.toList = z := ⟨_, rfl⟩
          have HVL := Lib.hid hvl
          rw [hzz] at HZA
          rw [hvl, hjn] at HAT
          clear hvl hzz hjn
          have hr1 : ∀ W9 : World, (Op.stringOp .add (⟨#[48]⟩ : ByteArray) T).run Tryz.prog W9 = .ok (.string ((⟨#[48]⟩ : ByteArray) ++ T)) W9 := fun W9 => run_string_add_sum W9 (⟨#[48]⟩ : ByteArray) T (by have := HSL.out; have := HTL.out; omega)
          have hr2 : ∀ W9 : World, (Op.stringOp .add ((⟨#[48]⟩ : ByteArray) ++ T) zR).run Tryz.prog W9 = .ok (.string ((⟨#[48]⟩ : ByteArray) ++ T ++ zR)) W9 := fun W9 => run_string_add_sum W9 ((⟨#[48]⟩ : ByteArray) ++ T) zR (by have := HSL.out; have := HTL.out; rw [ByteArray.size_append]; omega)
          go_wp2_with fail
          rw [HMX.out]
          refine (HZA.out Wg).mono ?_
          rintro e Wy ⟨rfl, hby⟩
          have HBY := Lib.hid hby
          clear hby
          go_wp2_with fail
          refine (HAT.out Wy).mono ?_
          rintro e Wz ⟨rfl, hbz⟩
          have HAZ := Lib.hid ((HAX.out.ext HBY.out).ext hbz)
          have HTZ := Lib.hid ((HT7.out.ext HBY.out).ext hbz)
          clear hbz HAX HAT HZA
          clear hr1 hr2 hzl
          obtain ⟨M, hM⟩ : ∃ M : Int, (VL : Int) = M := ⟨_, rfl⟩
          have HMB : Hid (0 ≤ M ∧ M < 1000000000000000) := Lib.hid (by have h8 := jnum_lt HSD.out HTD.out HSL.out HTL.out; rw [HVL.out] at h8; omega)
          have HVM : Hid (∀ v r, x = .ok v r → v = M) := Lib.hid (fun v r e => by rw [HVX.out v r e, HVL.out, hM])
          rw [hM]
          clear hM HVX
          have hm0 : 0 ≤ M := HMB.out.1
          have hm9 : M ≤ 9223372036854775807 := by have := HMB.out.2; omega
          have HF : Hid (NumJ s rb w x (.returned (.agg (vAr 2 M eB (.slice none 0 0) (.slice none 0 0)))) (Wz.setRow w.heap.size (vAr 2 M eB (.slice none 0 0) (.slice none 0 0)))) := Lib.hid ⟨M, by unfold i64ok; have := HMB.out; omega, rfl, HVM.out, HAZ.out.row (Nat.le_refl _) (by have := HRB.out; omega) _⟩
          go_wp2_with (refine wpList_store_row rfl _ _ _ rfl w.heap.size (vAr 2 M eB (.slice none 0 0) (.slice none 0 0)) rfl rfl _ _ HTZ.out (v_inf5 _ _ _ _ _) rfl (v_all5 _ _ _ _ _ _ _ _ _) ?_)
          (try simp only [Exit.inBlock, Exit.then])
          refine bodyPost_ret (v := .agg (vAr 2 M eB (.slice none 0 0) (.slice none 0 0))) (results_cell_row rfl _ _ _ _ _ _ _ rfl (HTZ.out.row _) Tryz.underlying25 rfl (v_inf5 _ _ _ _ _)) rfl HF.out
        · have hdb : (pk s d == 46) = false := by simpa using hdot
          have HFN := Lib.hid (fracP_no (n := 0) hdot)
          clear hdot
          obtain ⟨T, hT⟩ : ∃ T : ByteArray, (⟨#[]⟩ : ByteArray) = T := ⟨_, rfl⟩
          have HTE := Lib.hid hT
          have HTD : Hid (Digs T.data.toList) := Lib.hid (by rw [← hT]; exact fun c hc => by cases hc)
          have HTL : Hid (T.size ≤ 3) := Lib.hid (by rw [← hT]; decide)
          have HTZ0 : Hid (decv T.data.toList = 0) := Lib.hid (by rw [← hT]; rfl)
          rw [hT]
          clear hT
          go_wp2_with fail
          refine (jnext_at rb s d (-1) 0 Wd HR4.out hs).mono ?_
          rw [nx_ok]
          rintro e We ⟨rfl, hR, hg, -⟩
          have HR5 := Lib.hid hR
          have HG5 := Lib.hid (HG4.out.trans hg)
          have HT5 := Lib.hid (Rw.rh_grown HT4.out hg HTB.out)
          clear hR hg
          have HAX : Hid (AftJ s rb w We x) := Lib.hid (by
            rw [← HXF.out, HFN.out]
            exact ⟨d, HQd.out, rfl, HR5.out, HG5.out⟩)
          have HVX : Hid (∀ v r, x = .ok v r → v = ((decv (jnum (⟨#[48]⟩ : ByteArray) T).data.toList : Nat) : Int)) := Lib.hid (fun v r e => by
            rw [← HXF.out, HFN.out] at e
            simp only [Res.bind, Res.ok.injEq] at e
            rw [← e.1, jnum_val HTL.out, HNS.out, HTZ0.out]; simp)
          have HSZ : Hid ((T.size : Int) ≤ 3) := Lib.hid (by have := HTL.out; omega)
          have HMX : Hid (max (wrap64 (3 - (T.size : Int))) 0 = ((3 - T.size : Nat) : Int)) := Lib.hid (by have := HSZ.out; rw [wr64 (by omega)]; omega)
          obtain ⟨zR, hzz⟩ : ∃ Z : ByteArray, (⟨(Lib.repeatL [48] (3 - T.size)).toArray⟩ : ByteArray) = Z := ⟨_, rfl⟩
          have HZA := Lib.hid (zeros_at (3 - T.size) (by omega))
          have HAT := Lib.hid (jnum_atoi (S := (⟨#[48]⟩ : ByteArray)) (T := T) HSD.out HTD.out HSL.out HTL.out)
          have hzl : zR.size ≤ 3 := by rw [← hzz, Lib.size_eq, repeatL_one]; simp
          have hjn : jnum (⟨#[48]⟩ : ByteArray) T = (⟨#[48]⟩ : ByteArray) ++ T ++ zR := by rw [← hzz]; rfl
          obtain ⟨VL, hvl⟩ : ∃ z : Nat, decv (jnum (⟨#[48]⟩ : ByteArray) T).data.toList = z := ⟨_, rfl⟩
          have HVL := Lib.hid hvl
          rw [hzz] at HZA
          rw [hvl, hjn] at HAT
          clear hvl hzz hjn
          have hr1 : ∀ W9 : World, (Op.stringOp .add (⟨#[48]⟩ : ByteArray) T).run Tryz.prog W9 = .ok (.string ((⟨#[48]⟩ : ByteArray) ++ T)) W9 := fun W9 => run_string_add_sum W9 (⟨#[48]⟩ : ByteArray) T (by have := HSL.out; have := HTL.out; omega)
          have hr2 : ∀ W9 : World, (Op.stringOp .add ((⟨#[48]⟩ : ByteArray) ++ T) zR).run Tryz.prog W9 = .ok (.string ((⟨#[48]⟩ : ByteArray) ++ T ++ zR)) W9 := fun W9 => run_string_add_sum W9 ((⟨#[48]⟩ : ByteArray) ++ T) zR (by have := HSL.out; have := HTL.out; rw [ByteArray.size_append]; omega)
          go_wp2_with fail
          rw [HMX.out]
          refine (HZA.out We).mono ?_
          rintro e Wy ⟨rfl, hby⟩
          have HBY := Lib.hid hby
          clear hby
          go_wp2_with fail
          refine (HAT.out Wy).mono ?_
          rintro e Wz ⟨rfl, hbz⟩
          have HAZ := Lib.hid ((HAX.out.ext HBY.out).ext hbz)
          have HTZ := Lib.hid ((HT5.out.ext HBY.out).ext hbz)
          clear hbz HAX HAT HZA
          clear hr1 hr2 hzl
          obtain ⟨M, hM⟩ : ∃ M : Int, (VL : Int) = M := ⟨_, rfl⟩
          have HMB : Hid (0 ≤ M ∧ M < 1000000000000000) := Lib.hid (by have h8 := jnum_lt HSD.out HTD.out HSL.out HTL.out; rw [HVL.out] at h8; omega)
          have HVM : Hid (∀ v r, x = .ok v r → v = M) := Lib.hid (fun v r e => by rw [HVX.out v r e, HVL.out, hM])
          rw [hM]
          clear hM HVX
          have hm0 : 0 ≤ M := HMB.out.1
          have hm9 : M ≤ 9223372036854775807 := by have := HMB.out.2; omega
          have HF : Hid (NumJ s rb w x (.returned (.agg (vAr 2 M eB (.slice none 0 0) (.slice none 0 0)))) (Wz.setRow w.heap.size (vAr 2 M eB (.slice none 0 0) (.slice none 0 0)))) := Lib.hid ⟨M, by unfold i64ok; have := HMB.out; omega, rfl, HVM.out, HAZ.out.row (Nat.le_refl _) (by have := HRB.out; omega) _⟩
          go_wp2_with (refine wpList_store_row rfl _ _ _ rfl w.heap.size (vAr 2 M eB (.slice none 0 0) (.slice none 0 0)) rfl rfl _ _ HTZ.out (v_inf5 _ _ _ _ _) rfl (v_all5 _ _ _ _ _ _ _ _ _) ?_)
          (try simp only [Exit.inBlock, Exit.then])
          refine bodyPost_ret (v := .agg (vAr 2 M eB (.slice none 0 0) (.slice none 0 0))) (results_cell_row rfl _ _ _ _ _ _ _ rfl (HTZ.out.row _) Tryz.underlying25 rfl (v_inf5 _ _ _ _ _)) rfl HF.out
    · have hzb : (pk s a == 48) = false := by simpa using hz
      have HWD := Lib.hid (wholeP_dig hz)
      clear hz
      go_wp2_with fail
      refine (jnext_at rb s a (-1) 0 Wa HR1.out hs).mono ?_
      rw [nx_ok]
      rintro e Wb ⟨rfl, hR, hg, -⟩
      have HR2 := Lib.hid hR
      have HG2 := Lib.hid (HG1.out.trans hg)
      have HT2 := Lib.hid (Rw.rh_grown HT1.out hg HTB.out)
      clear hR hg
      obtain ⟨y, hy⟩ : ∃ y, digP 12 0 0 (dr s a) = y := ⟨_, rfl⟩
      have HY := Lib.hid hy
      clear hy
      have hdg := jdigits_at rb s a 12 Wb HR2.out hs HQa.out (by decide)
      rw [HY.out] at hdg
      have HDG : Hid (Calls Tryz.prog 49 #[.pointer (some ⟨rb, 0, none⟩), .int .i64 12] Wb (DigJ 12 s rb Wb y)) := Lib.hid hdg
      clear hdg
      go_wp2_with fail
      refine HDG.out.mono ?_
      rintro e Wc ⟨S, rfl, hsd, hsl, hyv, hA⟩
      have HSD := Lib.hid hsd
      have HSL := Lib.hid hsl
      have HYV := Lib.hid hyv
      have HAY := Lib.hid (AftJ.tr hA HG2.out)
      have HT3 := Lib.hid (Rw.rh_grown HT2.out hA.gr HTB.out)
      clear hsd hsl hyv hA HDG
      cases hyy : y with
      | bad q er =>
        have HXB : Hid (x = .bad q er) := Lib.hid (by rw [← HX.out, HWD.out, HY.out, hyy]; rfl)
        have HAX : Hid (AftJ s rb w Wc x) := Lib.hid (by rw [HXB.out]; have h9 := HAY.out; rw [hyy] at h9; exact h9)
        clear hyy HAY HYV
        obtain ⟨ab, hab, hRb, _⟩ := aftj_bad HAX.out HXB.out
        go_upto_region 12 with (fail)
        obtain ⟨T, hT⟩ : ∃ T : ByteArray, (⟨#[]⟩ : ByteArray) = T := ⟨_, rfl⟩
        have HTE := Lib.hid hT
        have HTD : Hid (Digs T.data.toList) := Lib.hid (by rw [← hT]; exact fun c hc => by cases hc)
        have HTL : Hid (T.size ≤ 3) := Lib.hid (by rw [← hT]; decide)
        have HTZ0 : Hid (decv T.data.toList = 0) := Lib.hid (by rw [← hT]; rfl)
        rw [hT]
        clear hT
        go_wp2_with fail
        refine (jnext_at rb s ab _ _ Wc hRb hs).mono ?_
        rw [nx_bad s ab (Int.natCast_nonneg _)]
        rintro e Wv ⟨rfl, -, hg, hb⟩
        have HAV := Lib.hid (HAX.out.ext hb)
        clear HAX
        have HAX := HAV
        clear HAV
        have HT4 := Lib.hid (HT3.out.ext hb)
        clear hRb hg hb
        have HVX : Hid (∀ v r, x = .ok v r → v = ((decv (jnum S T).data.toList : Nat) : Int)) := Lib.hid (fun v r e => by rw [HXB.out] at e; cases e)
        have HSZ : Hid ((T.size : Int) ≤ 3) := Lib.hid (by have := HTL.out; omega)
        have HMX : Hid (max (wrap64 (3 - (T.size : Int))) 0 = ((3 - T.size : Nat) : Int)) := Lib.hid (by have := HSZ.out; rw [wr64 (by omega)]; omega)
        obtain ⟨zR, hzz⟩ : ∃ Z : ByteArray, (⟨(Lib.repeatL [48] (3 - T.size)).toArray⟩ : ByteArray) = Z := ⟨_, rfl⟩
        have HZA := Lib.hid (zeros_at (3 - T.size) (by omega))
        have HAT := Lib.hid (jnum_atoi (S := S) (T := T) HSD.out HTD.out HSL.out HTL.out)
        have hzl : zR.size ≤ 3 := by rw [← hzz, Lib.size_eq, repeatL_one]; simp
        have hjn : jnum S T = S ++ T ++ zR := by rw [← hzz]; rfl
        obtain ⟨VL, hvl⟩ : ∃ z : Nat, decv (jnum S T).data.toList = z := ⟨_, rfl⟩
        have HVL := Lib.hid hvl
        rw [hzz] at HZA
        rw [hvl, hjn] at HAT
        clear hvl hzz hjn
        have hr1 : ∀ W9 : World, (Op.stringOp .add S T).run Tryz.prog W9 = .ok (.string (S ++ T)) W9 := fun W9 => run_string_add_sum W9 S T (by have := HSL.out; have := HTL.out; omega)
        have hr2 : ∀ W9 : World, (Op.stringOp .add (S ++ T) zR).run Tryz.prog W9 = .ok (.string (S ++ T ++ zR)) W9 := fun W9 => run_string_add_sum W9 (S ++ T) zR (by have := HSL.out; have := HTL.out; rw [ByteArray.size_append]; omega)
        go_wp2_with fail
        rw [HMX.out]
        refine (HZA.out Wv).mono ?_
        rintro e Wy ⟨rfl, hby⟩
        have HBY := Lib.hid hby
        clear hby
        go_wp2_with fail
        refine (HAT.out Wy).mono ?_
        rintro e Wz ⟨rfl, hbz⟩
        have HAZ := Lib.hid ((HAX.out.ext HBY.out).ext hbz)
        have HTZ := Lib.hid ((HT4.out.ext HBY.out).ext hbz)
        clear hbz HAX HAT HZA
        clear hr1 hr2 hzl
        obtain ⟨M, hM⟩ : ∃ M : Int, (VL : Int) = M := ⟨_, rfl⟩
        have HMB : Hid (0 ≤ M ∧ M < 1000000000000000) := Lib.hid (by have h8 := jnum_lt HSD.out HTD.out HSL.out HTL.out; rw [HVL.out] at h8; omega)
        have HVM : Hid (∀ v r, x = .ok v r → v = M) := Lib.hid (fun v r e => by rw [HVX.out v r e, HVL.out, hM])
        rw [hM]
        clear hM HVX
        have hm0 : 0 ≤ M := HMB.out.1
        have hm9 : M ≤ 9223372036854775807 := by have := HMB.out.2; omega
        have HF : Hid (NumJ s rb w x (.returned (.agg (vAr 2 M eB (.slice none 0 0) (.slice none 0 0)))) (Wz.setRow w.heap.size (vAr 2 M eB (.slice none 0 0) (.slice none 0 0)))) := Lib.hid ⟨M, by unfold i64ok; have := HMB.out; omega, rfl, HVM.out, HAZ.out.row (Nat.le_refl _) (by have := HRB.out; omega) _⟩
        go_wp2_with (refine wpList_store_row rfl _ _ _ rfl w.heap.size (vAr 2 M eB (.slice none 0 0) (.slice none 0 0)) rfl rfl _ _ HTZ.out (v_inf5 _ _ _ _ _) rfl (v_all5 _ _ _ _ _ _ _ _ _) ?_)
        (try simp only [Exit.inBlock, Exit.then])
        refine bodyPost_ret (v := .agg (vAr 2 M eB (.slice none 0 0) (.slice none 0 0))) (results_cell_row rfl _ _ _ _ _ _ _ rfl (HTZ.out.row _) Tryz.underlying25 rfl (v_inf5 _ _ _ _ _)) rfl HF.out
      | ok u q =>
        have HXF0 : Hid ((fracP (decv S.data.toList) q).bind (fun m t => .ok ((m : Int)) t) = x) := Lib.hid (by
          have e2 := HYV.out u q hyy
          rw [← HX.out, HWD.out, HY.out, hyy, e2]; rfl)
        have h9 := HAY.out
        rw [hyy] at h9
        obtain ⟨d, hdl, hdq, hRd, hgd⟩ := h9
        have HQd := Lib.hid hdl
        have HR3 := Lib.hid hRd
        have HG3 := Lib.hid hgd
        have HXF : Hid ((fracP (decv S.data.toList) (dr s d)).bind (fun m t => .ok ((m : Int)) t) = x) := Lib.hid (by rw [hdq]; exact HXF0.out)
        clear HXF0 hyy hdq hRd hgd HAY HYV
        go_upto_region 12 with (fail)
        by_cases hdot : pk s d = 46
        · have hdb : (pk s d == 46) = true := by simpa using hdot
          have HFD := Lib.hid (fracP_dot (n := (decv S.data.toList)) hdot)
          have HLD : Hid (d < s.size) := Lib.hid HFD.out.1
          clear hdot
          go_wp2_with fail
          refine (jnext_at rb s d (-1) 0 Wc HR3.out hs).mono ?_
          rw [nx_ok]
          rintro e We ⟨rfl, hR, hg, -⟩
          have HR4 := Lib.hid hR
          have HG4 := Lib.hid (HG3.out.trans hg)
          have HT4 := Lib.hid (Rw.rh_grown HT3.out hg HTB.out)
          clear hR hg
          obtain ⟨c0, c1, c2, c3⟩ := HR4.out.c
          have z1 := HR4.out.z 1
          have hai : (d : Int) < (s.size : Int) := by have := HLD.out; omega
          have ha0 : (0 : Int) ≤ (d : Int) := Int.natCast_nonneg _
          go_upto_region 14 with (fail)
          have hR : RJ (We.setCell ⟨rb, 1, none⟩ (.int .i64 ((d : Int) + 1))) rb s (d + 1) (-1) 0 := HR4.out.next (d + 1)
          have hg := gr_set We rb 1 (.int .i64 ((d : Int) + 1))
          have HR5 := Lib.hid hR
          have HG5 := Lib.hid (HG4.out.trans hg)
          have HT5 := Lib.hid (Rw.rh_grown HT4.out hg HTB.out)
          clear hR hg
          clear c0 c1 c2 c3 z1 hai ha0
          generalize We.setCell ⟨rb, 1, none⟩ (.int .i64 ((d : Int) + 1)) = Wf at *
          obtain ⟨b, hb⟩ : ∃ z, d + 1 = z := ⟨_, rfl⟩
          have HQb : Hid (b ≤ s.size) := Lib.hid (by have := HLD.out; omega)
          rw [hb] at HR5
          rw [hb] at HFD
          clear hb
          obtain ⟨y, hy⟩ : ∃ y, digP 3 0 0 (dr s b) = y := ⟨_, rfl⟩
          have HY := Lib.hid hy
          clear hy
          have hdg := jdigits_at rb s b 3 Wf HR5.out hs HQb.out (by decide)
          rw [HY.out] at hdg
          have HDG : Hid (Calls Tryz.prog 49 #[.pointer (some ⟨rb, 0, none⟩), .int .i64 3] Wf (DigJ 3 s rb Wf y)) := Lib.hid hdg
          clear hdg
          go_wp2_with fail
          refine HDG.out.mono ?_
          rintro e Wg ⟨T, rfl, htd, htl, hyv, hA⟩
          have HTD := Lib.hid htd
          have HTL := Lib.hid htl
          have HYV := Lib.hid hyv
          have HAY := Lib.hid (AftJ.tr hA HG5.out)
          have HT6 := Lib.hid (Rw.rh_grown HT5.out hA.gr HTB.out)
          clear htd htl hyv hA HDG
          have HAX : Hid (AftJ s rb w Wg x) := Lib.hid (by
            have h9 := HAY.out
            rw [← HXF.out, HFD.out.2, HY.out]
            cases hyy : y with
            | bad q er => rw [hyy] at h9; exact h9
            | ok u q => rw [hyy] at h9; exact h9)
          have HVX : Hid (∀ v r, x = .ok v r → v = ((decv (jnum S T).data.toList : Nat) : Int)) := Lib.hid (fun v r e => by
            rw [← HXF.out, HFD.out.2] at e
            cases hyy : y with
            | bad q er => rw [HY.out, hyy] at e; cases e
            | ok u q =>
              rw [HY.out, hyy] at e
              have e2 := HYV.out u q hyy
              simp only [Res.bind, Res.ok.injEq] at e
              rw [← e.1, e2, jnum_val HTL.out])
          clear HAY HYV
          have HSZ : Hid ((T.size : Int) ≤ 3) := Lib.hid (by have := HTL.out; omega)
          have HMX : Hid (max (wrap64 (3 - (T.size : Int))) 0 = ((3 - T.size : Nat) : Int)) := Lib.hid (by have := HSZ.out; rw [wr64 (by omega)]; omega)
          obtain ⟨zR, hzz⟩ : ∃ Z : ByteArray, (⟨(Lib.repeatL [48] (3 - T.size)).toArray⟩ : ByteArray) = Z := ⟨_, rfl⟩
          have HZA := Lib.hid (zeros_at (3 - T.size) (by omega))
          have HAT := Lib.hid (jnum_atoi (S := S) (T := T) HSD.out HTD.out HSL.out HTL.out)
          have hzl : zR.size ≤ 3 := by rw [← hzz, Lib.size_eq, repeatL_one]; simp
          have hjn : jnum S T = S ++ T ++ zR := by rw [← hzz]; rfl
          obtain ⟨VL, hvl⟩ : ∃ z : Nat, decv (jnum S T).data.toList = z := ⟨_, rfl⟩
          have HVL := Lib.hid hvl
          rw [hzz] at HZA
          rw [hvl, hjn] at HAT
          clear hvl hzz hjn
          have hr1 : ∀ W9 : World, (Op.stringOp .add S T).run Tryz.prog W9 = .ok (.string (S ++ T)) W9 := fun W9 => run_string_add_sum W9 S T (by have := HSL.out; have := HTL.out; omega)
          have hr2 : ∀ W9 : World, (Op.stringOp .add (S ++ T) zR).run Tryz.prog W9 = .ok (.string (S ++ T ++ zR)) W9 := fun W9 => run_string_add_sum W9 (S ++ T) zR (by have := HSL.out; have := HTL.out; rw [ByteArray.size_append]; omega)
          go_wp2_with fail
          rw [HMX.out]
          refine (HZA.out Wg).mono ?_
          rintro e Wy ⟨rfl, hby⟩
          have HBY := Lib.hid hby
          clear hby
          go_wp2_with fail
          refine (HAT.out Wy).mono ?_
          rintro e Wz ⟨rfl, hbz⟩
          have HAZ := Lib.hid ((HAX.out.ext HBY.out).ext hbz)
          have HTZ := Lib.hid ((HT6.out.ext HBY.out).ext hbz)
          clear hbz HAX HAT HZA
          clear hr1 hr2 hzl
          obtain ⟨M, hM⟩ : ∃ M : Int, (VL : Int) = M := ⟨_, rfl⟩
          have HMB : Hid (0 ≤ M ∧ M < 1000000000000000) := Lib.hid (by have h8 := jnum_lt HSD.out HTD.out HSL.out HTL.out; rw [HVL.out] at h8; omega)
          have HVM : Hid (∀ v r, x = .ok v r → v = M) := Lib.hid (fun v r e => by rw [HVX.out v r e, HVL.out, hM])
          rw [hM]
          clear hM HVX
          have hm0 : 0 ≤ M := HMB.out.1
          have hm9 : M ≤ 9223372036854775807 := by have := HMB.out.2; omega
          have HF : Hid (NumJ s rb w x (.returned (.agg (vAr 2 M eB (.slice none 0 0) (.slice none 0 0)))) (Wz.setRow w.heap.size (vAr 2 M eB (.slice none 0 0) (.slice none 0 0)))) := Lib.hid ⟨M, by unfold i64ok; have := HMB.out; omega, rfl, HVM.out, HAZ.out.row (Nat.le_refl _) (by have := HRB.out; omega) _⟩
          go_wp2_with (refine wpList_store_row rfl _ _ _ rfl w.heap.size (vAr 2 M eB (.slice none 0 0) (.slice none 0 0)) rfl rfl _ _ HTZ.out (v_inf5 _ _ _ _ _) rfl (v_all5 _ _ _ _ _ _ _ _ _) ?_)
          (try simp only [Exit.inBlock, Exit.then])
          refine bodyPost_ret (v := .agg (vAr 2 M eB (.slice none 0 0) (.slice none 0 0))) (results_cell_row rfl _ _ _ _ _ _ _ rfl (HTZ.out.row _) Tryz.underlying25 rfl (v_inf5 _ _ _ _ _)) rfl HF.out
        · have hdb : (pk s d == 46) = false := by simpa using hdot
          have HFN := Lib.hid (fracP_no (n := (decv S.data.toList)) hdot)
          clear hdot
          obtain ⟨T, hT⟩ : ∃ T : ByteArray, (⟨#[]⟩ : ByteArray) = T := ⟨_, rfl⟩
          have HTE := Lib.hid hT
          have HTD : Hid (Digs T.data.toList) := Lib.hid (by rw [← hT]; exact fun c hc => by cases hc)
          have HTL : Hid (T.size ≤ 3) := Lib.hid (by rw [← hT]; decide)
          have HTZ0 : Hid (decv T.data.toList = 0) := Lib.hid (by rw [← hT]; rfl)
          rw [hT]
          clear hT
          go_wp2_with fail
          refine (jnext_at rb s d (-1) 0 Wc HR3.out hs).mono ?_
          rw [nx_ok]
          rintro e We ⟨rfl, hR, hg, -⟩
          have HR4 := Lib.hid hR
          have HG4 := Lib.hid (HG3.out.trans hg)
          have HT4 := Lib.hid (Rw.rh_grown HT3.out hg HTB.out)
          clear hR hg
          have HAX : Hid (AftJ s rb w We x) := Lib.hid (by
            rw [← HXF.out, HFN.out]
            exact ⟨d, HQd.out, rfl, HR4.out, HG4.out⟩)
          have HVX : Hid (∀ v r, x = .ok v r → v = ((decv (jnum S T).data.toList : Nat) : Int)) := Lib.hid (fun v r e => by
            rw [← HXF.out, HFN.out] at e
            simp only [Res.bind, Res.ok.injEq] at e
            rw [← e.1, jnum_val HTL.out, HTZ0.out]; simp)
          have HSZ : Hid ((T.size : Int) ≤ 3) := Lib.hid (by have := HTL.out; omega)
          have HMX : Hid (max (wrap64 (3 - (T.size : Int))) 0 = ((3 - T.size : Nat) : Int)) := Lib.hid (by have := HSZ.out; rw [wr64 (by omega)]; omega)
          obtain ⟨zR, hzz⟩ : ∃ Z : ByteArray, (⟨(Lib.repeatL [48] (3 - T.size)).toArray⟩ : ByteArray) = Z := ⟨_, rfl⟩
          have HZA := Lib.hid (zeros_at (3 - T.size) (by omega))
          have HAT := Lib.hid (jnum_atoi (S := S) (T := T) HSD.out HTD.out HSL.out HTL.out)
          have hzl : zR.size ≤ 3 := by rw [← hzz, Lib.size_eq, repeatL_one]; simp
          have hjn : jnum S T = S ++ T ++ zR := by rw [← hzz]; rfl
          obtain ⟨VL, hvl⟩ : ∃ z : Nat, decv (jnum S T).data.toList = z := ⟨_, rfl⟩
          have HVL := Lib.hid hvl
          rw [hzz] at HZA
          rw [hvl, hjn] at HAT
          clear hvl hzz hjn
          have hr1 : ∀ W9 : World, (Op.stringOp .add S T).run Tryz.prog W9 = .ok (.string (S ++ T)) W9 := fun W9 => run_string_add_sum W9 S T (by have := HSL.out; have := HTL.out; omega)
          have hr2 : ∀ W9 : World, (Op.stringOp .add (S ++ T) zR).run Tryz.prog W9 = .ok (.string (S ++ T ++ zR)) W9 := fun W9 => run_string_add_sum W9 (S ++ T) zR (by have := HSL.out; have := HTL.out; rw [ByteArray.size_append]; omega)
          go_wp2_with fail
          rw [HMX.out]
          refine (HZA.out We).mono ?_
          rintro e Wy ⟨rfl, hby⟩
          have HBY := Lib.hid hby
          clear hby
          go_wp2_with fail
          refine (HAT.out Wy).mono ?_
          rintro e Wz ⟨rfl, hbz⟩
          have HAZ := Lib.hid ((HAX.out.ext HBY.out).ext hbz)
          have HTZ := Lib.hid ((HT4.out.ext HBY.out).ext hbz)
          clear hbz HAX HAT HZA
          clear hr1 hr2 hzl
          obtain ⟨M, hM⟩ : ∃ M : Int, (VL : Int) = M := ⟨_, rfl⟩
          have HMB : Hid (0 ≤ M ∧ M < 1000000000000000) := Lib.hid (by have h8 := jnum_lt HSD.out HTD.out HSL.out HTL.out; rw [HVL.out] at h8; omega)
          have HVM : Hid (∀ v r, x = .ok v r → v = M) := Lib.hid (fun v r e => by rw [HVX.out v r e, HVL.out, hM])
          rw [hM]
          clear hM HVX
          have hm0 : 0 ≤ M := HMB.out.1
          have hm9 : M ≤ 9223372036854775807 := by have := HMB.out.2; omega
          have HF : Hid (NumJ s rb w x (.returned (.agg (vAr 2 M eB (.slice none 0 0) (.slice none 0 0)))) (Wz.setRow w.heap.size (vAr 2 M eB (.slice none 0 0) (.slice none 0 0)))) := Lib.hid ⟨M, by unfold i64ok; have := HMB.out; omega, rfl, HVM.out, HAZ.out.row (Nat.le_refl _) (by have := HRB.out; omega) _⟩
          go_wp2_with (refine wpList_store_row rfl _ _ _ rfl w.heap.size (vAr 2 M eB (.slice none 0 0) (.slice none 0 0)) rfl rfl _ _ HTZ.out (v_inf5 _ _ _ _ _) rfl (v_all5 _ _ _ _ _ _ _ _ _) ?_)
          (try simp only [Exit.inBlock, Exit.then])
          refine bodyPost_ret (v := .agg (vAr 2 M eB (.slice none 0 0) (.slice none 0 0))) (results_cell_row rfl _ _ _ _ _ _ _ rfl (HTZ.out.row _) Tryz.underlying25 rfl (v_inf5 _ _ _ _ _)) rfl HF.out
end Fd
end Go.Proofs.YtbhcfmdogdaodaaGreatDoor
