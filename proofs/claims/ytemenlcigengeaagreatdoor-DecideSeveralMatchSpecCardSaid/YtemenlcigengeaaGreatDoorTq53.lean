/- ranked of package decide. Printed by gen_rank.py. -/
import Derived.Test.YtemenlcigengeaaGreatDoorTq51
namespace Go.Proofs.YtemenlcigengeaaGreatDoor
open Go.RowKit
namespace Nm
open _root_.Go.Proofs.YtemenlcigengeaaGreatDoor.Nt (boxn_other boxn_cell)
set_option maxRecDepth 100000 in
set_option maxHeartbeats 8000000 in
theorem ranked_at (l : List RT) (hok : ∀ r ∈ l, rtOk r) (a : Option Addr) (c : Nat) (n d : ByteArray) (hn : n.size ≤ maxLen) (hd : d.size ≤ maxLen) (w : World) (hs : Sl w (.slice a l.length c) l.length (l.flatMap rtL)) : Calls Tryz.prog 54 #[.slice a l.length c, .agg #[.string n, .string d]] w (RankPost w l n d) := by
  have HS := Lib.hid hs
  have HOK := Lib.hid hok
  have HND := Lib.hid (And.intro hn hd)
  clear hs hok hn hd
  go_enter Tryz.func54, Tryz.ntmps54
  go_upto_region 1 with (fail)
  refine wp_box3f fun w1' hsz hbW hC0 hF0 hC1 hF1 hC2 hF2 => ?_
  clear hsz
  have HB_m : Hid (Box w1' w.heap.size #[.string n, .string d]) := Lib.hid hC0
  have HF_m : Hid (Fre w1' w.heap.size) := Lib.hid hF0
  have HB_all : Hid (Box w1' (w.heap.size + 1) #[.slice none 0 0]) := Lib.hid hC1
  have HF_all : Hid (Fre w1' (w.heap.size + 1)) := Lib.hid hF1
  have HB_need : Hid (Box w1' (w.heap.size + 1 + 1) #[.bool false, .slice none 0 0, .slice none 0 0]) := Lib.hid hC2
  have HF_need : Hid (Fre w1' (w.heap.size + 1 + 1)) := Lib.hid hF2
  have HW := Lib.hid hbW
  clear hbW hC0 hF0 hC1 hF1 hC2 hF2
  have HSZ : Hid (w.heap.size + 2 < w1'.heap.size) := Lib.hid HB_need.out.1
  go_wp2_with fail
  refine (readAll_at l HOK.out a c w1' (HS.out.ext HW.out)).mono ?_
  rintro e w2' ⟨a3, c3, xs, rfl, hx9, hg9, hbz⟩
  have HX9 := Lib.hid hx9
  clear hx9
  have HG9 : Hid (allF l = 0 → ∃ g, a3 = some ⟨g, 0, none⟩ ∧ w.heap.size + 2 < g) := Lib.hid fun h => by obtain ⟨g, h1, h2⟩ := hg9 h; exact ⟨g, h1, Nat.lt_of_lt_of_le HSZ.out h2⟩
  clear hg9 HSZ
  replace HF_m := Lib.hid (HF_m.out.ext HB_m.out hbz)
  replace HB_m := Lib.hid (HB_m.out.ext hbz)
  replace HF_all := Lib.hid (HF_all.out.ext HB_all.out hbz)
  replace HB_all := Lib.hid (HB_all.out.ext hbz)
  replace HF_need := Lib.hid (HF_need.out.ext HB_need.out hbz)
  replace HB_need := Lib.hid (HB_need.out.ext hbz)
  replace HW := Lib.hid (ext_trans HW.out hbz)
  clear hbz
  by_cases hf : allF l = 0
  · have hne : (allF l != 0) = false := by simp [hf]
    have HV1 : Hid (rkF l n d = missF n d) := Lib.hid (by unfold rkF; rw [if_neg (fun h => h hf)])
    have HXS := Lib.hid (HX9.out hf)
    obtain ⟨g, rfl, hg⟩ := HG9.out hf
    obtain ⟨⟨hl1, hl10⟩, haF⟩ := allF_ok hf
    have HLN : Hid (∀ r ∈ l, Ln 100 100 (rQ r.n r.d)) := Lib.hid fun r hr => (part_ln haF hr).2.2.1
    have HXL := Lib.hid HXS.out.len
    have hx1 : 1 ≤ xs.length := by rw [HXL.out]; exact hl1
    have hx10 : xs.length ≤ 10 := by rw [HXL.out]; exact hl10
    clear hf HX9 HG9 haF hl1 hl10
    have c_all_0 : w2'.cell? ⟨(w.heap.size + 1), 0, none⟩ = some (.slice none 0 0) := HB_all.out.2 0
    have f_all_0 := HF_all.out 0
    go_upto_region 2 with (fail)
    have HX7 : Hid (XsOf (w2'.setCell ⟨w.heap.size + 1, 0, none⟩ (.slice (some ⟨g, 0, none⟩) xs.length c3)) l xs (some ⟨g, 0, none⟩) c3) := Lib.hid (HXS.out.far (kp_box1 HB_all.out rfl _) (SameAt.setCell (p := ⟨w.heap.size + 1, 0, none⟩) (by show w.heap.size + 1 ≠ g; omega) _))
    obtain ⟨w3', hX⟩ : ∃ X, X = (w2'.setCell ⟨(w.heap.size + 1), 0, none⟩ (.slice (some ⟨g, 0, none⟩) xs.length c3)) := ⟨_, rfl⟩
    rw [← hX]
    rw [← hX] at HX7
    have nB_m : Hid (Box w3' w.heap.size #[.string n, .string d]) := by rw [hX]; exact Lib.hid (boxn_other (HB_m.out) (by omega) 0 (.slice (some ⟨g, 0, none⟩) xs.length c3))
    have nF_m : Hid (Fre w3' w.heap.size) := by rw [hX]; exact Lib.hid (fun j => by simp only [World.frozen?_setCell]; exact HF_m.out j)
    have nB_all : Hid (Box w3' (w.heap.size + 1) #[.slice (some ⟨g, 0, none⟩) xs.length c3]) := by rw [hX]; exact Lib.hid (boxn_cell (HB_all.out) (j := 0) (by simp) (.slice (some ⟨g, 0, none⟩) xs.length c3))
    have nF_all : Hid (Fre w3' (w.heap.size + 1)) := by rw [hX]; exact Lib.hid (fun j => by simp only [World.frozen?_setCell]; exact HF_all.out j)
    have nB_need : Hid (Box w3' (w.heap.size + 1 + 1) #[.bool false, .slice none 0 0, .slice none 0 0]) := by rw [hX]; exact Lib.hid (boxn_other (HB_need.out) (by omega) 0 (.slice (some ⟨g, 0, none⟩) xs.length c3))
    have nF_need : Hid (Fre w3' (w.heap.size + 1 + 1)) := by rw [hX]; exact Lib.hid (fun j => by simp only [World.frozen?_setCell]; exact HF_need.out j)
    have nW : Hid (Below w.heap.size w w3') := by rw [hX]; exact Lib.hid ((HW.out).setCell (p := ⟨(w.heap.size + 1), 0, none⟩) (show w.heap.size ≤ (w.heap.size + 1) by omega) (.slice (some ⟨g, 0, none⟩) xs.length c3))
    clear c_all_0 f_all_0
    clear hX HB_m HF_m HB_all HF_all HB_need HF_need HW
    have HB_m := nB_m; have HF_m := nF_m
    have HB_all := nB_all; have HF_all := nF_all
    have HB_need := nB_need; have HF_need := nF_need
    have HW := nW
    clear nW nB_m nF_m nB_all nF_all nB_need nF_need
    clear HXS
    have HXS := HX7
    clear HX7
    have c_m_0 : w3'.cell? ⟨w.heap.size, 0, none⟩ = some (.string n) := HB_m.out.2 0
    have c_m_1 : w3'.cell? ⟨w.heap.size, 1, none⟩ = some (.string d) := HB_m.out.2 1
    go_wp2_with fail
    refine (readMiss_at n d HND.out.1 HND.out.2 w3').mono ?_
    rintro e w4' ⟨b, a1, n1, c1, a2, n2, c2, rfl, hx9, hbz⟩
    have HX9 := Lib.hid (show XIf3 w4' (missF n d) (xv b a1 n1 c1 a2 n2 c2) (rQ n d) from hx9)
    clear hx9
    replace HF_m := Lib.hid (HF_m.out.ext HB_m.out hbz)
    replace HB_m := Lib.hid (HB_m.out.ext hbz)
    replace HF_all := Lib.hid (HF_all.out.ext HB_all.out hbz)
    replace HB_all := Lib.hid (HB_all.out.ext hbz)
    replace HF_need := Lib.hid (HF_need.out.ext HB_need.out hbz)
    replace HB_need := Lib.hid (HB_need.out.ext hbz)
    replace HXS := Lib.hid (HXS.out.ext hbz)
    replace HW := Lib.hid (ext_trans HW.out hbz)
    clear c_m_0 c_m_1
    clear hbz
    go_upto_region 4 with (fail)
    refine wp_box1 fun w5' hsz hbz hC => ?_
    clear hsz
    have lt_m_x : w.heap.size < w4'.heap.size := HB_m.out.1
    have lt_all_x : (w.heap.size + 1) < w4'.heap.size := HB_all.out.1
    have lt_need_x : (w.heap.size + 1 + 1) < w4'.heap.size := HB_need.out.1
    have le_x : w.heap.size ≤ w4'.heap.size := HW.out.size
    replace HF_m := Lib.hid (HF_m.out.ext HB_m.out hbz)
    replace HB_m := Lib.hid (HB_m.out.ext hbz)
    replace HF_all := Lib.hid (HF_all.out.ext HB_all.out hbz)
    replace HB_all := Lib.hid (HB_all.out.ext hbz)
    replace HF_need := Lib.hid (HF_need.out.ext HB_need.out hbz)
    replace HB_need := Lib.hid (HB_need.out.ext hbz)
    replace HXS := Lib.hid (HXS.out.ext hbz)
    replace HX9 := Lib.hid (HX9.out.ext hbz)
    replace HW := Lib.hid (ext_trans HW.out hbz)
    clear hbz
    have HB_x := Lib.hid hC
    clear hC
    generalize w4'.heap.size = b_x at *
    by_cases hg9 : missF n d = 0
    · have hne2 : (missF n d != 0) = false := by simp [hg9]
      have HV : Hid (rkF l n d = 0) := Lib.hid (HV1.out.trans hg9)
      have HXR := Lib.hid (HX9.out hg9)
      have HQN : Hid ((rQ n d).num ≠ 0) := Lib.hid (by obtain ⟨q9, _, hq9, _, _, hq0, _⟩ := lawLine.miss_parts hg9; rw [hq9]; intro h0; rw [Rat.num_eq_zero] at h0; rw [h0] at hq0; exact absurd hq0 (by decide))
      clear hg9 HX9 HV1
      have c_all_0 : w5'.cell? ⟨(w.heap.size + 1), 0, none⟩ = some (.slice (some ⟨g, 0, none⟩) xs.length c3) := HB_all.out.2 0
      go_wp2
      have HROW : Hid (Nt.Row w5' w5'.heap.size (.slice none 0 0) (List.range 0)) := Lib.hid (Nt.Row.nil _ _)
      have HBL : Hid (Below w5'.heap.size w5' w5') := Lib.hid (Below.refl _ _)
      go_loopw [5, 9, 28] (fun s _ i wr => ∃ k : Nat, k ≤ xs.length ∧ i = .int .i64 (k : Int) ∧ Hid (Nt.Row wr w5'.heap.size s (List.range k)) ∧ Hid (Below w5'.heap.size w5' wr)) (fun _ _ i _ => xs.length - (intOf i).toNat)
      case atStart => exact ⟨0, by omega, rfl, HROW, HBL⟩
      case round =>
        clear HROW HBL
        obtain ⟨k, hk, rfl, HROW, HBL⟩ := hrel
        generalize hX : wr = X at *
        clear hX
        have hsb : w5'.heap.size ≤ X.heap.size := HBL.out.size
        have hlr : (List.range k).length = k := List.length_range
        by_cases hlt : k < xs.length
        · go_wp2_with (at_builtin; refine Nt.wpList_append_wi rfl _ _ rfl w5'.heap.size rfl HROW.out k rfl rfl (by rw [hlr]; omega) hsb ?_; intro v7 w7 hr7 hb7)
          have HR7 : Hid (Nt.Row w7 w5'.heap.size v7 (List.range (k + 1))) := Lib.hid (by rw [List.range_succ]; exact hr7)
          have HB7 := Lib.hid (HBL.out.trans hb7)
          clear hr7 hb7
          go_roundw
          case rel => exact ⟨k + 1, by omega, by go_num, HR7, HB7⟩
          case measure => simp [intOf]; omega
        · have hkl : k = xs.length := by omega
          subst hkl
          obtain ⟨g4, c4, rfl, hbg, hle4, hcm4, hown4⟩ := HROW.out.own (by rw [hlr]; omega)
          rw [hlr] at hle4 ⊢
          have HO4 := Lib.hid hown4
          clear hown4 HROW
          have HCB : Hid (Nt.CmpB (.pointer (some ⟨w.heap.size + 1, 0, none⟩)) (cmpV (vL l)) w5'.heap.size xs.length w5') := Lib.hid fun W hb x y hx hy => rcmp_at l xs _ c3 _ x y (by rw [← HXL.out]; exact hx) (by rw [← HXL.out]; exact hy) W (HB_all.out.ext hb) (HXS.out.ext hb) HLN.out
          clear c_all_0
          have HG4 : Hid (w.heap.size + 2 < g4) := Lib.hid (Nat.lt_of_lt_of_le HB_need.out.1 hbg)
          go_wp2_with fail
          refine (Nt.sortRange_at (vL l) _ w5'.heap.size g4 c4 xs.length w5' X HCB.out HBL.out HO4.out hbg hsb (by omega)).mono ?_
          rintro e w6' ⟨rfl, hown9, hbz⟩
          have HOW := Lib.hid hown9
          clear hown9 HO4 HBL hsb hlr hlt HCB hbg
          replace HF_m := Lib.hid (HF_m.out.ext HB_m.out hbz)
          replace HB_m := Lib.hid (HB_m.out.ext hbz)
          replace HF_all := Lib.hid (HF_all.out.ext HB_all.out hbz)
          replace HB_all := Lib.hid (HB_all.out.ext hbz)
          replace HF_need := Lib.hid (HF_need.out.ext HB_need.out hbz)
          replace HB_need := Lib.hid (HB_need.out.ext hbz)
          replace HB_x := Lib.hid (HB_x.out.ext hbz)
          replace HXS := Lib.hid (HXS.out.ext hbz)
          replace HXR := Lib.hid (HXR.out.ext hbz)
          replace HW := Lib.hid (ext_trans HW.out hbz)
          clear hbz
          have HSL9 : Hid (Sl w6' (.slice (some ⟨g4, 0, none⟩) xs.length c4) xs.length (Nt.wcs (rankP (vL l) xs.length))) := Lib.hid (by have h := HOW.out.sl (c := c4) (by rw [(rankP_rk (vL l) xs.length).len]; exact hle4) hcm4; rw [(rankP_rk (vL l) xs.length).len] at h; exact h)
          clear HOW hle4 hcm4
          have HLI : Hid (Ln 100 100 (rQ n d)⁻¹ ∨ True) := Lib.hid (Or.inr trivial)
          obtain ⟨q', hq'⟩ : ∃ x, (rQ n d)⁻¹ = x := ⟨_, rfl⟩
          have HEQ := Lib.hid hq'
          clear hq' HLI
          go_upto_region 12 with (fail)
          have c_all_0 : w6'.cell? ⟨(w.heap.size + 1), 0, none⟩ = some (.slice (some ⟨g, 0, none⟩) xs.length c3) := HB_all.out.2 0
          have c_x_0 : w6'.cell? ⟨b_x, 0, none⟩ = some (.bool b) := HB_x.out.2 0
          have c_x_1 : w6'.cell? ⟨b_x, 1, none⟩ = some (.slice a1 n1 c1) := HB_x.out.2 1
          have c_x_2 : w6'.cell? ⟨b_x, 2, none⟩ = some (.slice a2 n2 c2) := HB_x.out.2 2
          have c_need_0 : w6'.cell? ⟨(w.heap.size + 1 + 1), 0, none⟩ = some (.bool false) := HB_need.out.2 0
          have c_need_1 : w6'.cell? ⟨(w.heap.size + 1 + 1), 1, none⟩ = some (.slice none 0 0) := HB_need.out.2 1
          have c_need_2 : w6'.cell? ⟨(w.heap.size + 1 + 1), 2, none⟩ = some (.slice none 0 0) := HB_need.out.2 2
          have f_all_0 := HF_all.out 0
          have f_need_0 := HF_need.out 0
          have f_need_1 := HF_need.out 1
          have f_need_2 := HF_need.out 2
          clear HB_x HF_m HB_m
          go_region_with (first | (go_at_call 45; refine (turned_q (rQ n d) q' HEQ.out _ _ (by exact HXR.out) HQN.out).mono ?_; rintro e w7 ⟨vz, rfl, hvS, hbz⟩; have hbz := ext_trans (Nt.w_drew w6') hbz; obtain ⟨i1, j1, i2, j2, rfl, _, _⟩ := XR.open_ hvS; generalize decide (q'.num < 0) = d1 at hvS ⊢; generalize (digs q'.num.natAbs).length = f1 at hvS ⊢; generalize (digs q'.den).length = f2 at hvS ⊢; have HNX : Hid (XR w7 (y3V ⟨d1, i1, f1, j1, i2, f2, j2⟩) q') := Lib.hid hvS; clear hvS; replace HF_all := Lib.hid (HF_all.out.ext HB_all.out hbz); replace HB_all := Lib.hid (HB_all.out.ext hbz); replace HF_need := Lib.hid (HF_need.out.ext HB_need.out hbz); replace HB_need := Lib.hid (HB_need.out.ext hbz); replace HXS := Lib.hid (HXS.out.ext hbz); replace HSL9 := Lib.hid (HSL9.out.ext hbz); replace HW := Lib.hid (ext_trans HW.out hbz); clear hbz; clear c_all_0; have c_all_0 : w7.cell? ⟨(w.heap.size + 1), 0, none⟩ = some (.slice (some ⟨g, 0, none⟩) xs.length c3) := HB_all.out.2 0; clear c_need_0 c_need_1 c_need_2; have c_need_0 : w7.cell? ⟨(w.heap.size + 1 + 1), 0, none⟩ = some (.bool false) := HB_need.out.2 0; have c_need_1 : w7.cell? ⟨(w.heap.size + 1 + 1), 1, none⟩ = some (.slice none 0 0) := HB_need.out.2 1; have c_need_2 : w7.cell? ⟨(w.heap.size + 1 + 1), 2, none⟩ = some (.slice none 0 0) := HB_need.out.2 2; have f_all_0 := HF_all.out 0; have f_need_0 := HF_need.out 0; have f_need_1 := HF_need.out 1; have f_need_2 := HF_need.out 2))
          all_goals
            have HK1 : Hid (Kp w7 (w7.setCell ⟨(w.heap.size + 1), 0, none⟩ (.slice (some ⟨g, 0, none⟩) xs.length c3))) := Lib.hid (kp_box1 HB_all.out rfl _)
            have HNB : Hid (Box (w7.setCell ⟨(w.heap.size + 1), 0, none⟩ (.slice (some ⟨g, 0, none⟩) xs.length c3)) (w.heap.size + 1 + 1) (y3C ⟨false, none, 0, 0, none, 0, 0⟩)) := Lib.hid (boxn_other HB_need.out (by omega) _ _)
            have HKP : Hid (Kp w7 ((((w7.setCell ⟨(w.heap.size + 1), 0, none⟩ (.slice (some ⟨g, 0, none⟩) xs.length c3)).setCell ⟨(w.heap.size + 1 + 1), 0, none⟩ (.bool d1)).setCell ⟨(w.heap.size + 1 + 1), 1, none⟩ (.slice i1 f1 j1)).setCell ⟨(w.heap.size + 1 + 1), 2, none⟩ (.slice i2 f2 j2))) := Lib.hid (HK1.out.trans (Kp.set3 HNB.out (y3_nw _) _ _ _))
            have HSA : Hid (∀ k, w.heap.size + 2 < k → SameAt k w7 ((((w7.setCell ⟨(w.heap.size + 1), 0, none⟩ (.slice (some ⟨g, 0, none⟩) xs.length c3)).setCell ⟨(w.heap.size + 1 + 1), 0, none⟩ (.bool d1)).setCell ⟨(w.heap.size + 1 + 1), 1, none⟩ (.slice i1 f1 j1)).setCell ⟨(w.heap.size + 1 + 1), 2, none⟩ (.slice i2 f2 j2))) := Lib.hid fun k hk => (SameAt.setCell (p := ⟨w.heap.size + 1, 0, none⟩) (by show w.heap.size + 1 ≠ k; omega) _).trans (SameAt.set3 (by omega) _ _ _)
            have nB_all : Hid (Box ((((w7.setCell ⟨(w.heap.size + 1), 0, none⟩ (.slice (some ⟨g, 0, none⟩) xs.length c3)).setCell ⟨(w.heap.size + 1 + 1), 0, none⟩ (.bool d1)).setCell ⟨(w.heap.size + 1 + 1), 1, none⟩ (.slice i1 f1 j1)).setCell ⟨(w.heap.size + 1 + 1), 2, none⟩ (.slice i2 f2 j2)) (w.heap.size + 1) #[.slice (some ⟨g, 0, none⟩) xs.length c3]) := Lib.hid (boxn_other (boxn_other (boxn_other (boxn_cell (HB_all.out) (j := 0) (by simp) (.slice (some ⟨g, 0, none⟩) xs.length c3)) (by omega) 0 (.bool d1)) (by omega) 1 (.slice i1 f1 j1)) (by omega) 2 (.slice i2 f2 j2))
            have nF_all : Hid (Fre ((((w7.setCell ⟨(w.heap.size + 1), 0, none⟩ (.slice (some ⟨g, 0, none⟩) xs.length c3)).setCell ⟨(w.heap.size + 1 + 1), 0, none⟩ (.bool d1)).setCell ⟨(w.heap.size + 1 + 1), 1, none⟩ (.slice i1 f1 j1)).setCell ⟨(w.heap.size + 1 + 1), 2, none⟩ (.slice i2 f2 j2)) (w.heap.size + 1)) := Lib.hid (fun j => by simp only [World.frozen?_setCell]; exact HF_all.out j)
            have nB_need : Hid (Box ((((w7.setCell ⟨(w.heap.size + 1), 0, none⟩ (.slice (some ⟨g, 0, none⟩) xs.length c3)).setCell ⟨(w.heap.size + 1 + 1), 0, none⟩ (.bool d1)).setCell ⟨(w.heap.size + 1 + 1), 1, none⟩ (.slice i1 f1 j1)).setCell ⟨(w.heap.size + 1 + 1), 2, none⟩ (.slice i2 f2 j2)) (w.heap.size + 1 + 1) #[.bool d1, .slice i1 f1 j1, .slice i2 f2 j2]) := Lib.hid (boxn_cell (boxn_cell (boxn_cell (boxn_other (HB_need.out) (by omega) 0 (.slice (some ⟨g, 0, none⟩) xs.length c3)) (j := 0) (by simp) (.bool d1)) (j := 1) (by simp) (.slice i1 f1 j1)) (j := 2) (by simp) (.slice i2 f2 j2))
            have nF_need : Hid (Fre ((((w7.setCell ⟨(w.heap.size + 1), 0, none⟩ (.slice (some ⟨g, 0, none⟩) xs.length c3)).setCell ⟨(w.heap.size + 1 + 1), 0, none⟩ (.bool d1)).setCell ⟨(w.heap.size + 1 + 1), 1, none⟩ (.slice i1 f1 j1)).setCell ⟨(w.heap.size + 1 + 1), 2, none⟩ (.slice i2 f2 j2)) (w.heap.size + 1 + 1)) := Lib.hid (fun j => by simp only [World.frozen?_setCell]; exact HF_need.out j)
            have nW : Hid (Below w.heap.size w ((((w7.setCell ⟨(w.heap.size + 1), 0, none⟩ (.slice (some ⟨g, 0, none⟩) xs.length c3)).setCell ⟨(w.heap.size + 1 + 1), 0, none⟩ (.bool d1)).setCell ⟨(w.heap.size + 1 + 1), 1, none⟩ (.slice i1 f1 j1)).setCell ⟨(w.heap.size + 1 + 1), 2, none⟩ (.slice i2 f2 j2))) := Lib.hid (((((HW.out).setCell (p := ⟨(w.heap.size + 1), 0, none⟩) (show w.heap.size ≤ (w.heap.size + 1) by omega) (.slice (some ⟨g, 0, none⟩) xs.length c3)).setCell (p := ⟨(w.heap.size + 1 + 1), 0, none⟩) (show w.heap.size ≤ (w.heap.size + 1 + 1) by omega) (.bool d1)).setCell (p := ⟨(w.heap.size + 1 + 1), 1, none⟩) (show w.heap.size ≤ (w.heap.size + 1 + 1) by omega) (.slice i1 f1 j1)).setCell (p := ⟨(w.heap.size + 1 + 1), 2, none⟩) (show w.heap.size ≤ (w.heap.size + 1 + 1) by omega) (.slice i2 f2 j2))
            have HOK9 : Hid (RkOk ((((w7.setCell ⟨(w.heap.size + 1), 0, none⟩ (.slice (some ⟨g, 0, none⟩) xs.length c3)).setCell ⟨(w.heap.size + 1 + 1), 0, none⟩ (.bool d1)).setCell ⟨(w.heap.size + 1 + 1), 1, none⟩ (.slice i1 f1 j1)).setCell ⟨(w.heap.size + 1 + 1), 2, none⟩ (.slice i2 f2 j2)) l n d xs (some ⟨g, 0, none⟩) c3 (some ⟨g4, 0, none⟩) c4 ⟨d1, i1, f1, j1, i2, f2, j2⟩) := Lib.hid ⟨HXS.out.far HKP.out (HSA.out g hg), by rw [← HXL.out]; exact sl_far HSL9.out (HSA.out g4 HG4.out), by rw [HEQ.out]; exact HNX.out.kp HKP.out⟩
            have z0 : ((((w7.setCell ⟨(w.heap.size + 1), 0, none⟩ (.slice (some ⟨g, 0, none⟩) xs.length c3)).setCell ⟨(w.heap.size + 1 + 1), 0, none⟩ (.bool d1)).setCell ⟨(w.heap.size + 1 + 1), 1, none⟩ (.slice i1 f1 j1)).setCell ⟨(w.heap.size + 1 + 1), 2, none⟩ (.slice i2 f2 j2)).cell? ⟨w.heap.size + 1, 0, none⟩ = some (.slice (some ⟨g, 0, none⟩) xs.length c3) := nB_all.out.2 0
            have z1 : ((((w7.setCell ⟨(w.heap.size + 1), 0, none⟩ (.slice (some ⟨g, 0, none⟩) xs.length c3)).setCell ⟨(w.heap.size + 1 + 1), 0, none⟩ (.bool d1)).setCell ⟨(w.heap.size + 1 + 1), 1, none⟩ (.slice i1 f1 j1)).setCell ⟨(w.heap.size + 1 + 1), 2, none⟩ (.slice i2 f2 j2)).cell? ⟨w.heap.size + 1 + 1, 0, none⟩ = some (.bool d1) := nB_need.out.2 0
            have z2 : ((((w7.setCell ⟨(w.heap.size + 1), 0, none⟩ (.slice (some ⟨g, 0, none⟩) xs.length c3)).setCell ⟨(w.heap.size + 1 + 1), 0, none⟩ (.bool d1)).setCell ⟨(w.heap.size + 1 + 1), 1, none⟩ (.slice i1 f1 j1)).setCell ⟨(w.heap.size + 1 + 1), 2, none⟩ (.slice i2 f2 j2)).cell? ⟨w.heap.size + 1 + 1, 1, none⟩ = some (.slice i1 f1 j1) := nB_need.out.2 1
            have z3 : ((((w7.setCell ⟨(w.heap.size + 1), 0, none⟩ (.slice (some ⟨g, 0, none⟩) xs.length c3)).setCell ⟨(w.heap.size + 1 + 1), 0, none⟩ (.bool d1)).setCell ⟨(w.heap.size + 1 + 1), 1, none⟩ (.slice i1 f1 j1)).setCell ⟨(w.heap.size + 1 + 1), 2, none⟩ (.slice i2 f2 j2)).cell? ⟨w.heap.size + 1 + 1, 2, none⟩ = some (.slice i2 f2 j2) := nB_need.out.2 2
            go_wp2
            exact bodyPost_ret (v := .tuple #[.slice (some ⟨g, 0, none⟩) xs.length c3, .slice (some ⟨g4, 0, none⟩) xs.length c4, .agg #[.bool d1, .slice i1 f1 j1, .slice i2 f2 j2], .int .i64 0]) (by simp [results, Tryz.results54, go_sem, z0, z1, z2, z3]) rfl ⟨some ⟨g, 0, none⟩, c3, xs, some ⟨g4, 0, none⟩, xs.length, c4, ⟨d1, i1, f1, j1, i2, f2, j2⟩, by rw [HV.out]; rfl, (fun _ => ⟨HXL.out, HOK9.out⟩), nW.out⟩
    · have hne2 : (missF n d != 0) = true := by simp [hg9]
      have HV : Hid (rkF l n d = missF n d) := HV1
      have HNE := Lib.hid hg9
      clear hg9 HX9 HXS
      have c_need_0 : w5'.cell? ⟨(w.heap.size + 1 + 1), 0, none⟩ = some (.bool false) := HB_need.out.2 0
      have c_need_1 : w5'.cell? ⟨(w.heap.size + 1 + 1), 1, none⟩ = some (.slice none 0 0) := HB_need.out.2 1
      have c_need_2 : w5'.cell? ⟨(w.heap.size + 1 + 1), 2, none⟩ = some (.slice none 0 0) := HB_need.out.2 2
      have c_all_0 : w5'.cell? ⟨(w.heap.size + 1), 0, none⟩ = some (.slice (some ⟨g, 0, none⟩) xs.length c3) := HB_all.out.2 0
      have f_need_0 := HF_need.out 0
      have f_need_1 := HF_need.out 1
      have f_need_2 := HF_need.out 2
      have f_all_0 := HF_all.out 0
      go_wp2_with fail
      go_big_region
      have nB_m : Hid (Box ((((w5'.setCell ⟨(w.heap.size + 1), 0, none⟩ (.slice none 0 0)).setCell ⟨(w.heap.size + 1 + 1), 0, none⟩ (.bool false)).setCell ⟨(w.heap.size + 1 + 1), 1, none⟩ (.slice none 0 0)).setCell ⟨(w.heap.size + 1 + 1), 2, none⟩ (.slice none 0 0)) w.heap.size #[.string n, .string d]) := Lib.hid (boxn_other (boxn_other (boxn_other (boxn_other (HB_m.out) (by omega) 0 (.slice none 0 0)) (by omega) 0 (.bool false)) (by omega) 1 (.slice none 0 0)) (by omega) 2 (.slice none 0 0))
      have nF_m : Hid (Fre ((((w5'.setCell ⟨(w.heap.size + 1), 0, none⟩ (.slice none 0 0)).setCell ⟨(w.heap.size + 1 + 1), 0, none⟩ (.bool false)).setCell ⟨(w.heap.size + 1 + 1), 1, none⟩ (.slice none 0 0)).setCell ⟨(w.heap.size + 1 + 1), 2, none⟩ (.slice none 0 0)) w.heap.size) := Lib.hid (fun j => by simp only [World.frozen?_setCell]; exact HF_m.out j)
      have nB_all : Hid (Box ((((w5'.setCell ⟨(w.heap.size + 1), 0, none⟩ (.slice none 0 0)).setCell ⟨(w.heap.size + 1 + 1), 0, none⟩ (.bool false)).setCell ⟨(w.heap.size + 1 + 1), 1, none⟩ (.slice none 0 0)).setCell ⟨(w.heap.size + 1 + 1), 2, none⟩ (.slice none 0 0)) (w.heap.size + 1) #[.slice none 0 0]) := Lib.hid (boxn_other (boxn_other (boxn_other (boxn_cell (HB_all.out) (j := 0) (by simp) (.slice none 0 0)) (by omega) 0 (.bool false)) (by omega) 1 (.slice none 0 0)) (by omega) 2 (.slice none 0 0))
      have nF_all : Hid (Fre ((((w5'.setCell ⟨(w.heap.size + 1), 0, none⟩ (.slice none 0 0)).setCell ⟨(w.heap.size + 1 + 1), 0, none⟩ (.bool false)).setCell ⟨(w.heap.size + 1 + 1), 1, none⟩ (.slice none 0 0)).setCell ⟨(w.heap.size + 1 + 1), 2, none⟩ (.slice none 0 0)) (w.heap.size + 1)) := Lib.hid (fun j => by simp only [World.frozen?_setCell]; exact HF_all.out j)
      have nB_need : Hid (Box ((((w5'.setCell ⟨(w.heap.size + 1), 0, none⟩ (.slice none 0 0)).setCell ⟨(w.heap.size + 1 + 1), 0, none⟩ (.bool false)).setCell ⟨(w.heap.size + 1 + 1), 1, none⟩ (.slice none 0 0)).setCell ⟨(w.heap.size + 1 + 1), 2, none⟩ (.slice none 0 0)) (w.heap.size + 1 + 1) #[.bool false, .slice none 0 0, .slice none 0 0]) := Lib.hid (boxn_cell (boxn_cell (boxn_cell (boxn_other (HB_need.out) (by omega) 0 (.slice none 0 0)) (j := 0) (by simp) (.bool false)) (j := 1) (by simp) (.slice none 0 0)) (j := 2) (by simp) (.slice none 0 0))
      have nF_need : Hid (Fre ((((w5'.setCell ⟨(w.heap.size + 1), 0, none⟩ (.slice none 0 0)).setCell ⟨(w.heap.size + 1 + 1), 0, none⟩ (.bool false)).setCell ⟨(w.heap.size + 1 + 1), 1, none⟩ (.slice none 0 0)).setCell ⟨(w.heap.size + 1 + 1), 2, none⟩ (.slice none 0 0)) (w.heap.size + 1 + 1)) := Lib.hid (fun j => by simp only [World.frozen?_setCell]; exact HF_need.out j)
      have nB_x : Hid (Box ((((w5'.setCell ⟨(w.heap.size + 1), 0, none⟩ (.slice none 0 0)).setCell ⟨(w.heap.size + 1 + 1), 0, none⟩ (.bool false)).setCell ⟨(w.heap.size + 1 + 1), 1, none⟩ (.slice none 0 0)).setCell ⟨(w.heap.size + 1 + 1), 2, none⟩ (.slice none 0 0)) b_x #[.bool b, .slice a1 n1 c1, .slice a2 n2 c2]) := Lib.hid (boxn_other (boxn_other (boxn_other (boxn_other (HB_x.out) (Nat.ne_of_gt lt_all_x) 0 (.slice none 0 0)) (Nat.ne_of_gt lt_need_x) 0 (.bool false)) (Nat.ne_of_gt lt_need_x) 1 (.slice none 0 0)) (Nat.ne_of_gt lt_need_x) 2 (.slice none 0 0))
      have nW : Hid (Below w.heap.size w ((((w5'.setCell ⟨(w.heap.size + 1), 0, none⟩ (.slice none 0 0)).setCell ⟨(w.heap.size + 1 + 1), 0, none⟩ (.bool false)).setCell ⟨(w.heap.size + 1 + 1), 1, none⟩ (.slice none 0 0)).setCell ⟨(w.heap.size + 1 + 1), 2, none⟩ (.slice none 0 0))) := Lib.hid (((((HW.out).setCell (p := ⟨(w.heap.size + 1), 0, none⟩) (show w.heap.size ≤ (w.heap.size + 1) by omega) (.slice none 0 0)).setCell (p := ⟨(w.heap.size + 1 + 1), 0, none⟩) (show w.heap.size ≤ (w.heap.size + 1 + 1) by omega) (.bool false)).setCell (p := ⟨(w.heap.size + 1 + 1), 1, none⟩) (show w.heap.size ≤ (w.heap.size + 1 + 1) by omega) (.slice none 0 0)).setCell (p := ⟨(w.heap.size + 1 + 1), 2, none⟩) (show w.heap.size ≤ (w.heap.size + 1 + 1) by omega) (.slice none 0 0))
      have z0 : ((((w5'.setCell ⟨(w.heap.size + 1), 0, none⟩ (.slice none 0 0)).setCell ⟨(w.heap.size + 1 + 1), 0, none⟩ (.bool false)).setCell ⟨(w.heap.size + 1 + 1), 1, none⟩ (.slice none 0 0)).setCell ⟨(w.heap.size + 1 + 1), 2, none⟩ (.slice none 0 0)).drew.cell? ⟨w.heap.size + 1, 0, none⟩ = some (.slice none 0 0) := nB_all.out.2 0
      have z1 : ((((w5'.setCell ⟨(w.heap.size + 1), 0, none⟩ (.slice none 0 0)).setCell ⟨(w.heap.size + 1 + 1), 0, none⟩ (.bool false)).setCell ⟨(w.heap.size + 1 + 1), 1, none⟩ (.slice none 0 0)).setCell ⟨(w.heap.size + 1 + 1), 2, none⟩ (.slice none 0 0)).drew.cell? ⟨w.heap.size + 1 + 1, 0, none⟩ = some (.bool false) := nB_need.out.2 0
      have z2 : ((((w5'.setCell ⟨(w.heap.size + 1), 0, none⟩ (.slice none 0 0)).setCell ⟨(w.heap.size + 1 + 1), 0, none⟩ (.bool false)).setCell ⟨(w.heap.size + 1 + 1), 1, none⟩ (.slice none 0 0)).setCell ⟨(w.heap.size + 1 + 1), 2, none⟩ (.slice none 0 0)).drew.cell? ⟨w.heap.size + 1 + 1, 1, none⟩ = some (.slice none 0 0) := nB_need.out.2 1
      have z3 : ((((w5'.setCell ⟨(w.heap.size + 1), 0, none⟩ (.slice none 0 0)).setCell ⟨(w.heap.size + 1 + 1), 0, none⟩ (.bool false)).setCell ⟨(w.heap.size + 1 + 1), 1, none⟩ (.slice none 0 0)).setCell ⟨(w.heap.size + 1 + 1), 2, none⟩ (.slice none 0 0)).drew.cell? ⟨w.heap.size + 1 + 1, 2, none⟩ = some (.slice none 0 0) := nB_need.out.2 2
      clear c_need_0 c_need_1 c_need_2 c_all_0 f_need_0 f_need_1 f_need_2 f_all_0
      go_wp2
      exact bodyPost_ret (v := .tuple #[.slice none 0 0, .slice none 0 0, .agg #[.bool false, .slice none 0 0, .slice none 0 0], .int .i64 (missF n d)]) (by simp [results, Tryz.results54, go_sem, z0, z1, z2, z3]) rfl ⟨none, 0, [], none, 0, 0, ⟨false, none, 0, 0, none, 0, 0⟩, by rw [HV.out]; rfl, (fun h => absurd h (by rw [HV.out]; exact HNE.out)), nW.out.drew⟩
  · have HV : Hid (rkF l n d = allF l) := Lib.hid (by unfold rkF; rw [if_pos hf])
    have HNE := Lib.hid hf
    have hne : (allF l != 0) = true := by simp [hf]
    clear hf HX9
    have c_all_0 : w2'.cell? ⟨(w.heap.size + 1), 0, none⟩ = some (.slice none 0 0) := HB_all.out.2 0
    have f_all_0 := HF_all.out 0
    go_upto_region 2 with (fail)
    obtain ⟨w3', hX⟩ : ∃ X, X = (w2'.setCell ⟨(w.heap.size + 1), 0, none⟩ (.slice a3 xs.length c3)) := ⟨_, rfl⟩
    rw [← hX]
    have nB_m : Hid (Box w3' w.heap.size #[.string n, .string d]) := by rw [hX]; exact Lib.hid (boxn_other (HB_m.out) (by omega) 0 (.slice a3 xs.length c3))
    have nF_m : Hid (Fre w3' w.heap.size) := by rw [hX]; exact Lib.hid (fun j => by simp only [World.frozen?_setCell]; exact HF_m.out j)
    have nB_all : Hid (Box w3' (w.heap.size + 1) #[.slice a3 xs.length c3]) := by rw [hX]; exact Lib.hid (boxn_cell (HB_all.out) (j := 0) (by simp) (.slice a3 xs.length c3))
    have nF_all : Hid (Fre w3' (w.heap.size + 1)) := by rw [hX]; exact Lib.hid (fun j => by simp only [World.frozen?_setCell]; exact HF_all.out j)
    have nB_need : Hid (Box w3' (w.heap.size + 1 + 1) #[.bool false, .slice none 0 0, .slice none 0 0]) := by rw [hX]; exact Lib.hid (boxn_other (HB_need.out) (by omega) 0 (.slice a3 xs.length c3))
    have nF_need : Hid (Fre w3' (w.heap.size + 1 + 1)) := by rw [hX]; exact Lib.hid (fun j => by simp only [World.frozen?_setCell]; exact HF_need.out j)
    have nW : Hid (Below w.heap.size w w3') := by rw [hX]; exact Lib.hid ((HW.out).setCell (p := ⟨(w.heap.size + 1), 0, none⟩) (show w.heap.size ≤ (w.heap.size + 1) by omega) (.slice a3 xs.length c3))
    clear c_all_0 f_all_0
    clear hX HB_m HF_m HB_all HF_all HB_need HF_need HW
    have HB_m := nB_m; have HF_m := nF_m
    have HB_all := nB_all; have HF_all := nF_all
    have HB_need := nB_need; have HF_need := nF_need
    have HW := nW
    clear nW nB_m nF_m nB_all nF_all nB_need nF_need
    have c_all_0 : w3'.cell? ⟨(w.heap.size + 1), 0, none⟩ = some (.slice a3 xs.length c3) := HB_all.out.2 0
    have c_need_0 : w3'.cell? ⟨(w.heap.size + 1 + 1), 0, none⟩ = some (.bool false) := HB_need.out.2 0
    have c_need_1 : w3'.cell? ⟨(w.heap.size + 1 + 1), 1, none⟩ = some (.slice none 0 0) := HB_need.out.2 1
    have c_need_2 : w3'.cell? ⟨(w.heap.size + 1 + 1), 2, none⟩ = some (.slice none 0 0) := HB_need.out.2 2
    go_wp2
    exact bodyPost_ret (v := .tuple #[.slice a3 xs.length c3, .slice none 0 0, .agg #[.bool false, .slice none 0 0, .slice none 0 0], .int .i64 (allF l)]) (by simp [results, Tryz.results54, go_sem, c_all_0, c_need_0, c_need_1, c_need_2]) rfl ⟨a3, c3, xs, none, 0, 0, ⟨false, none, 0, 0, none, 0, 0⟩, by rw [HV.out]; rfl, (fun h => absurd h (by rw [HV.out]; exact HNE.out)), HW.out⟩
end Nm
end Go.Proofs.YtemenlcigengeaaGreatDoor
