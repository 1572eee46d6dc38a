/- Holm and Share of the reference. Printed by gen_rnk.py. Share of the reference. Printed by gen_rnk.py. -/
import Derived.Test.YtemenlcigengeaaGreatDoorTq57
import Derived.Test.YtemenlcigengeaaGreatDoorTq58
import Derived.Test.YtemenlcigengeaaGreatDoorTq49
import Derived.Test.YtemenlcigengeaaGreatDoorTq43
import Derived.Test.YtemenlcigengeaaGreatDoorProg
import Derived.Test.YtemenlcigengeaaGreatDoorTq00
import Derived.Test.YtemenlcigengeaaGreatDoorTq40
import Derived.Test.YtemenlcigengeaaGreatDoorTq23
import Derived.Test.YtemenlcigengeaaGreatDoorTq45
import Derived.Test.YtemenlcigengeaaGreatDoorTq50
import Derived.Test.YtemenlcigengeaaGreatDoorTq36
import Derived.Test.YtemenlcigengeaaGreatDoorTq41
import Derived.Test.YtemenlcigengeaaGreatDoorTq48
import Derived.Test.YtemenlcigengeaaGreatDoorTq16
import Derived.Test.YtemenlcigengeaaGreatDoorTq05
import Derived.Test.YtemenlcigengeaaGreatDoorTq06
import Derived.Test.YtemenlcigengeaaGreatDoorTq03
import Derived.Test.YtemenlcigengeaaGreatDoorTq07
import Derived.Test.YtemenlcigengeaaGreatDoorTq08
import Derived.Test.YtemenlcigengeaaGreatDoorTq31
import Derived.Test.YtemenlcigengeaaGreatDoorTq51
import Derived.Test.YtemenlcigengeaaGreatDoorTq52
import Derived.Test.YtemenlcigengeaaGreatDoorTq53
import Derived.Test.YtemenlcigengeaaGreatDoorTq54
namespace Go.Proofs.YtemenlcigengeaaGreatDoor
open Go.RowKit
namespace Nt
open _root_.Go.Proofs.YtemenlcigengeaaGreatDoor.Nm (rQ RT rtL rtOk aF vL vL_fits vL_ln rt_elem Rk Fits Ln.fits showN showD RowsPost RowIf RowIf.bad RowIf.good rkF rk_parts miss_ln holmB shareB bitL bitL_len bitL_nil bitL_set bit_holm bit_share hJ hJ_step shN shN_step hTh sTh take_snoc_at OwnZ wpList_make_bools SameAt SameAt.setCell sl_far)
set_option maxRecDepth 100000 in
set_option maxHeartbeats 8000000 in
theorem refHolm_at (l : List RT) (hok : ∀ r ∈ l, rtOk r) (a : Option Addr) (c : Nat) (n d : ByteArray) (hn : n.size ≤ maxLen) (hd : d.size ≤ maxLen) (w : World) (hs : Sl w (.slice a l.length c) l.length (l.flatMap rtL)) (ht : Tab w) : Calls Tryz.prog 19 #[.slice a l.length c, .agg #[.string n, .string d]] w (RowsPost w (rkF l n d) (holmB (vL l) (rQ n d)⁻¹ l.length)) := by
  have HS := Lib.hid hs
  have HOK := Lib.hid hok
  have HND := Lib.hid (And.intro hn hd)
  clear hs hok hn hd
  go_enter Tryz.func19, Tryz.ntmps19
  have HT0 := Lib.hid ht
  clear ht
  go_upto_region 1 with (fail)
  refine wp_box1 fun w1' hsz hbW hA0 => ?_
  clear hsz
  have HB_m := Lib.hid hA0
  have HW := Lib.hid hbW
  clear hbW hA0
  have c_m_0 : w1'.cell? ⟨w.heap.size, 0, none⟩ = some (.string n) := HB_m.out.2 0
  have c_m_1 : w1'.cell? ⟨w.heap.size, 1, none⟩ = some (.string d) := HB_m.out.2 1
  go_wp2_with fail
  refine (checkManyR_at l HOK.out a c w1' (HS.out.ext HW.out) n d HND.out.1 HND.out.2 (HT0.out.ext HW.out)).mono ?_
  rintro e w2' ⟨rfl, hbz⟩
  replace HB_m := Lib.hid (HB_m.out.ext hbz)
  replace HW := Lib.hid (ext_trans HW.out hbz)
  clear c_m_0 c_m_1
  clear hbz
  rw [show manyF l n d = rkF l n d from rfl]
  by_cases hf : rkF l n d = 0
  · have hne : (rkF l n d != 0) = false := by simp [hf]
    have HV := Lib.hid hf
    have hp9 := rk_parts hf
    have HAF : Hid (aF l = 0) := Lib.hid hp9.2.1
    have HMI := Lib.hid (miss_ln hp9.2.2)
    obtain ⟨⟨hl1, hl10⟩, _⟩ := hp9
    clear hf
    have HBM : Hid (Box w2' w.heap.size #[.string (showN (rQ n d)), .string (showD (rQ n d))]) := Lib.hid (by rw [← HMI.out.2.2.2.1, ← HMI.out.2.2.2.2.1]; exact HB_m.out)
    clear HB_m
    have HSW := Lib.hid (HS.out.ext HW.out)
    generalize rQ n d = qm at *
    go_wp2_with (refine wpList_make_bools rfl _ _ rfl l.length rfl rfl rfl (by omega) ?_; intro w3' hO hbz hsz)
    have HBL : Hid (Below w2'.heap.size w2' w3') := Lib.hid hbz
    have HO : Hid (OwnZ w3' w2'.heap.size (bitL l.length [])) := Lib.hid (by rw [bitL_nil]; exact hO)
    have hsz9 : w2'.heap.size < w3'.heap.size := by rw [hsz]; omega
    clear hO hbz hsz
    go_wp2_with fail
    refine (ranking_at l a c w3' (HSW.out.ext HBL.out) HAF.out hl1 hl10 (HT0.out.ext (ext_trans HW.out HBL.out))).mono ?_
    rintro e w4' ⟨g4, c4, P, rfl, hpk, hps, hg4, hbz⟩
    have HPK := Lib.hid hpk
    have HPX := Lib.hid hps
    have HPL := Lib.hid hpk.len
    replace HO := Lib.hid (HO.out.ext hbz)
    replace HBL := Lib.hid (HBL.out.trans (hbz.mono (Nat.le_of_lt hsz9)))
    have hne4 : w2'.heap.size ≠ g4 := by omega
    clear hpk hps hbz hg4 hsz9
    go_wp2
    go_loopw [8, 9, 22] (fun _ _ i wr => ∃ k : Nat, k ≤ l.length ∧ i = .int .i64 (k : Int) ∧ Hid (hJ (vL l) (hTh l.length qm⁻¹) P 0 = hJ (vL l) (hTh l.length qm⁻¹) (P.drop k) k) ∧ Hid (OwnZ wr w2'.heap.size (bitL l.length (P.take k))) ∧ Hid (Sl wr (.slice (some ⟨g4, 0, none⟩) l.length c4) l.length (wcs P)) ∧ Hid (Below w2'.heap.size w2' wr)) (fun _ _ i _ => l.length - (intOf i).toNat)
    case atStart => exact ⟨0, by omega, rfl, rfl, HO, HPX, HBL⟩
    case round =>
      clear HO HBL HPX
      obtain ⟨k, hk, rfl, HJ, HO, HPX, HBL⟩ := hrel
      generalize hX : wr = X at *
      clear hX
      have hsb : w2'.heap.size ≤ X.heap.size := HBL.out.size
      by_cases hlt : k < l.length
      · have hkP : k < P.length := by rw [HPL.out]; exact hlt
        have hgP := wcs_get hkP
        have HIN : Hid (P[k] < l.length) := Lib.hid (HPK.out.mem.1 (List.getElem_mem hkP))
        have HST := Lib.hid (hJ_step (v := vL l) (th := hTh l.length qm⁻¹) hkP)
        have HTK := Lib.hid (take_snoc_at hkP)
        generalize P[k] = i at *
        have hin := HIN.out
        obtain ⟨g5, o5, hp5, hc4⟩ := sl_addr HPX.out hgP
        cases hp5
        have c_p : X.cell? ⟨g4, k, none⟩ = some (.int .i64 (i : Int)) := by simpa using hc4
        clear hc4 hgP
        obtain ⟨pb, po, rfl, hd0, hd1⟩ := rt_elem HAF.out HSW.out hin
        have HFI := Lib.hid (vL_fits HAF.out hin)
        have HG : Hid (∀ p : GrownOf X, Below w2'.heap.size w2' p.v) := Lib.hid fun p => HBL.out.trans (p.b.mono hsb)
        have HGW : Hid (∀ p : GrownOf X, Tab p.v) := Lib.hid fun p => HT0.out.ext (ext_trans HW.out (HG.out p))
        have d0 : ∀ p : GrownOf X, p.v.cell? ⟨pb, po + i * 2, none⟩ = some (.string (showN (vL l i))) := fun p => ((HG.out p).cell (World.block_lt_of_cell? _ _ hd0)).trans hd0
        have d1 : ∀ p : GrownOf X, p.v.cell? ⟨pb, po + i * 2 + 1, none⟩ = some (.string (showD (vL l i))) := fun p => ((HG.out p).cell (World.block_lt_of_cell? _ _ hd1)).trans hd1
        have m0 : ∀ p : GrownOf X, p.v.cell? ⟨w.heap.size, 0, none⟩ = some (.string (showN qm)) := fun p => (HBM.out.ext (HG.out p)).2 0
        have m1 : ∀ p : GrownOf X, p.v.cell? ⟨w.heap.size, 1, none⟩ = some (.string (showD qm)) := fun p => (HBM.out.ext (HG.out p)).2 1
        have hi0 : (0 : Int) ≤ (i : Int) := Int.natCast_nonneg _
        have hi2 : (i : Int) < (l.length : Int) := by omega
        have hi3 : (i : Int).toNat = i := by omega
        have hk0 : (0 : Int) ≤ (k : Int) := Int.natCast_nonneg _
        have hk1 : (k : Int) < (l.length : Int) := by omega
        have hk3 : (k : Int).toNat = k := by omega
        clear hd0 hd1 hkP
        go_upto_region 8 with (fail)
        clear c_p
        obtain ⟨q1, hq1⟩ : ∃ x : Rat, ((l.length - k : Nat) : Rat) = x := ⟨_, rfl⟩
        obtain ⟨m, hm⟩ : ∃ x, q1 / qm = x := ⟨_, rfl⟩
        obtain ⟨b, hb⟩ : ∃ x, decide (vL l i < m) = x := ⟨_, rfl⟩
        have HEQ := Lib.hid (And.intro hq1 (And.intro hm hb))
        have HL1 : Hid (Nm.Ln 2 0 q1) := Lib.hid (by rw [← hq1]; exact Nm.Ln.nat (by omega))
        have HQ0 : Hid (qm ≠ 0) := Lib.hid (Rat.ne_of_gt HMI.out.1)
        have HLM : Hid (Nm.Ln 102 100 m) := Lib.hid (by rw [← hm]; exact HL1.out.div HMI.out.2.1 HQ0.out)
        have HTM : Hid (hTh l.length qm⁻¹ k = m) := Lib.hid (by rw [← hm, ← hq1, Rat.div_def]; rfl)
        have HCM : Hid (decide (vL l i < hTh l.length qm⁻¹ k) = b) := Lib.hid (by rw [HTM.out]; exact hb)
        have HF1 := Lib.hid (HL1.out.fits (by omega) (by omega))
        have HFM := Lib.hid (HLM.out.fits (by omega) (by omega))
        have HFQ : Hid (Fits qm) := Lib.hid HMI.out.2.2.2.2.2
        have hwr : IntKind.i64.wrap ((l.length : Int) - (k : Int)) = (l.length : Int) - (k : Int) := by rw [IntKind.wrap_i64]; omega
        clear hq1 hm hb
        have hW : ∀ p : GrownOf X, Calls Tryz.prog 26 #[.int .i64 ((l.length : Int) - (k : Int))] p.v fun e w' => e = .returned (.agg #[.string (showN q1), .string (showD q1)]) ∧ Below p.v.heap.size p.v w' := fun p => by have h := whole_is ((l.length : Int) - (k : Int)) (l.length - k) (by omega) (by omega) p.v (HGW.out p); rw [HEQ.out.1] at h; exact h
        have hO : ∀ p : GrownOf X, Calls Tryz.prog 51 #[.agg #[.string (showN q1), .string (showD q1)], .agg #[.string (showN qm), .string (showD qm)]] p.v fun e w' => e = .returned (.agg #[.string (showN m), .string (showD m)]) ∧ Below p.v.heap.size p.v w' := fun p => over_is q1 qm m HEQ.out.2.1 HF1.out HFQ.out HQ0.out HFM.out p.v (HGW.out p)
        have hL : ∀ p : GrownOf X, Calls Tryz.prog 24 #[.agg #[.string (showN (vL l i)), .string (showD (vL l i))], .agg #[.string (showN m), .string (showD m)]] p.v fun e w' => e = .returned (.bool b) ∧ Below p.v.heap.size p.v w' := fun p => less_is (vL l i) m b HEQ.out.2.2 HFI.out HFM.out p.v (HGW.out p)
        refine Nt.wp_region_below (by kernel_rfl) (by kernel_rfl) ?_
        repeat (quiet_step (first | (go_at_call 26; refine Calls.grows (hW _)) | (go_at_call 51; refine Calls.grows (hO _)) | (go_at_call 24; refine Calls.grows (hL _))))
        refine wpQuiet_nil ?_
        intro wq hw'
        have hbq := Nt.GrownOf.of hw'
        clear hw'
        clear hW hO hL d0 d1 m0 m1 HG HGW hwr
        replace HO := Lib.hid (HO.out.ext hbq)
        replace HPX := Lib.hid (HPX.out.ext hbq)
        replace HBL := Lib.hid (HBL.out.trans (hbq.mono hsb))
        clear hbq
        cases b
        · replace HJ : Hid (hJ (vL l) (hTh l.length qm⁻¹) P 0 = hJ (vL l) (hTh l.length qm⁻¹) (P.drop (k + 1)) (k + 1)) := Lib.hid (HJ.out.trans (HST.out.trans (if_neg (of_decide_eq_false HCM.out))))
          have HO9 : Hid (OwnZ (wq.setCell ⟨w2'.heap.size, i, none⟩ (.bool true)) w2'.heap.size (bitL l.length (P.take (k + 1)))) := Lib.hid (by have h := HO.out.set (i := i) (by rw [bitL_len]; exact HIN.out) true; rw [bitL_set HIN.out, ← HTK.out] at h; exact h)
          have HB9 : Hid (Below w2'.heap.size w2' (wq.setCell ⟨w2'.heap.size, i, none⟩ (.bool true))) := Lib.hid (HBL.out.setCell (p := ⟨w2'.heap.size, i, none⟩) (Nat.le_refl _) _)
          have c_o := HO.out.cell (i := i) (by rw [bitL_len]; exact HIN.out)
          have f_o : wq.frozen? ⟨w2'.heap.size, i, none⟩ = false := HO.out.frozen i
          have HP9 : Hid (Sl (wq.setCell ⟨w2'.heap.size, i, none⟩ (.bool true)) (.slice (some ⟨g4, 0, none⟩) l.length c4) l.length (wcs P)) := Lib.hid (sl_far HPX.out (SameAt.setCell (p := ⟨w2'.heap.size, i, none⟩) hne4 _))
          go_wp2
          go_roundw
          case rel => exact ⟨k + 1, by omega, by go_num, HJ, HO9, HP9, HB9⟩
          case measure => simp [intOf]; omega
        · have HJ9 : Hid (hJ (vL l) (hTh l.length qm⁻¹) P 0 = k) := Lib.hid (HJ.out.trans (HST.out.trans (if_pos (of_decide_eq_true HCM.out))))
          have HL9 : Hid (holmB (vL l) qm⁻¹ l.length = bitL l.length (P.take k)) := Lib.hid (by rw [← bit_holm HPK.out (Rat.inv_pos.2 HMI.out.1), HJ9.out])
          have HWZ : Hid (Below w.heap.size w wq) := Lib.hid (ext_trans HW.out HBL.out)
          go_wp2
          exact bodyPost_ret (v := .tuple #[.slice (some ⟨w2'.heap.size, 0, none⟩) l.length l.length, .int .i64 0]) (by simp [results, Tryz.results19, go_sem]) rfl ⟨_, l.length, _, by rw [HV.out], by rw [HV.out, HL9.out]; have h := RowIf.good (c := l.length) HO.out (by rw [bitL_len]; exact Nat.le_refl _) (by unfold maxLen; omega); rw [bitL_len] at h; exact h, HWZ.out⟩
      · have hkl : k = l.length := by omega
        have HJ9 : Hid (hJ (vL l) (hTh l.length qm⁻¹) P 0 = k) := Lib.hid (by rw [HJ.out, List.drop_of_length_le (by rw [HPL.out]; omega)]; rfl)
        have HL9 : Hid (holmB (vL l) qm⁻¹ l.length = bitL l.length (P.take k)) := Lib.hid (by rw [← bit_holm HPK.out (Rat.inv_pos.2 HMI.out.1), HJ9.out])
        have HWZ : Hid (Below w.heap.size w X) := Lib.hid (ext_trans HW.out HBL.out)
        clear hkl
        go_wp2
        exact bodyPost_ret (v := .tuple #[.slice (some ⟨w2'.heap.size, 0, none⟩) l.length l.length, .int .i64 0]) (by simp [results, Tryz.results19, go_sem]) rfl ⟨_, l.length, _, by rw [HV.out], by rw [HV.out, HL9.out]; have h := RowIf.good (c := l.length) HO.out (by rw [bitL_len]; exact Nat.le_refl _) (by unfold maxLen; omega); rw [bitL_len] at h; exact h, HWZ.out⟩
  · have hne : (rkF l n d != 0) = true := by simp [hf]
    have HNE := Lib.hid hf
    clear hf
    go_wp2
    exact bodyPost_ret (v := .tuple #[.slice none 0 0, .int .i64 (rkF l n d)]) (by simp [results, Tryz.results19, go_sem]) rfl ⟨none, 0, 0, rfl, RowIf.bad HNE.out, HW.out⟩
end Nt
end Go.Proofs.YtemenlcigengeaaGreatDoor
namespace Go.Proofs.YtemenlcigengeaaGreatDoor
open Go.RowKit
namespace Nt
open _root_.Go.Proofs.YtemenlcigengeaaGreatDoor.Nm (rQ RT rtL rtOk aF vL vL_fits vL_ln rt_elem Rk Fits Ln.fits showN showD RowsPost RowIf RowIf.bad RowIf.good rkF rk_parts miss_ln holmB shareB bitL bitL_len bitL_nil bitL_set bit_holm bit_share hJ hJ_step shN shN_step hTh sTh take_snoc_at OwnZ wpList_make_bools SameAt SameAt.setCell sl_far)
theorem sh_iff {n k : Nat} {q x : Rat} (hq : 0 < q) (hk : 0 < k) : sTh n q⁻¹ ≤ x * (k : Rat) ↔ ¬ x < (n : Rat) / ((k : Rat) * q) := by
  have hk' : (0 : Rat) < (k : Rat) := Rat.natCast_pos.2 hk
  have hkq := Rat.mul_pos hk' hq
  have hne := Rat.ne_of_gt hq
  have hne2 := Rat.ne_of_gt hkq
  have e1 : sTh n q⁻¹ * q = n := by unfold sTh; rw [Rat.mul_assoc, Rat.inv_mul_cancel _ hne, Rat.mul_one]
  have e2 : (n : Rat) / ((k : Rat) * q) * ((k : Rat) * q) = n := Rat.div_mul_cancel hne2
  rw [Rat.not_lt]
  constructor
  · intro h
    refine Rat.le_of_mul_le_mul_right (c := (k : Rat) * q) ?_ hkq
    rw [e2, ← e1, ← Rat.mul_assoc]
    exact Rat.mul_le_mul_of_nonneg_right h (Rat.le_of_lt hq)
  · intro h
    refine Rat.le_of_mul_le_mul_right (c := q) ?_ hq
    rw [e1, Rat.mul_assoc, ← e2]
    exact Rat.mul_le_mul_of_nonneg_right h (Rat.le_of_lt hkq)
set_option maxRecDepth 100000 in
set_option maxHeartbeats 8000000 in
theorem refShare_at (l : List RT) (hok : ∀ r ∈ l, rtOk r) (a : Option Addr) (c : Nat) (n d : ByteArray) (hn : n.size ≤ maxLen) (hd : d.size ≤ maxLen) (w : World) (hs : Sl w (.slice a l.length c) l.length (l.flatMap rtL)) (ht : Tab w) : Calls Tryz.prog 22 #[.slice a l.length c, .agg #[.string n, .string d]] w (RowsPost w (rkF l n d) (shareB (vL l) (rQ n d)⁻¹ l.length)) := by
  have HS := Lib.hid hs
  have HOK := Lib.hid hok
  have HND := Lib.hid (And.intro hn hd)
  clear hs hok hn hd
  go_enter Tryz.func22, Tryz.ntmps22
  have HT0 := Lib.hid ht
  clear ht
  go_upto_region 1 with (fail)
  refine wp_box1 fun w1' hsz hbW hA0 => ?_
  clear hsz
  have HB_m := Lib.hid hA0
  have HW := Lib.hid hbW
  clear hbW hA0
  have c_m_0 : w1'.cell? ⟨w.heap.size, 0, none⟩ = some (.string n) := HB_m.out.2 0
  have c_m_1 : w1'.cell? ⟨w.heap.size, 1, none⟩ = some (.string d) := HB_m.out.2 1
  go_wp2_with fail
  refine (checkManyR_at l HOK.out a c w1' (HS.out.ext HW.out) n d HND.out.1 HND.out.2 (HT0.out.ext HW.out)).mono ?_
  rintro e w2' ⟨rfl, hbz⟩
  replace HB_m := Lib.hid (HB_m.out.ext hbz)
  replace HW := Lib.hid (ext_trans HW.out hbz)
  clear c_m_0 c_m_1
  clear hbz
  rw [show manyF l n d = rkF l n d from rfl]
  by_cases hf : rkF l n d = 0
  · have hne : (rkF l n d != 0) = false := by simp [hf]
    have HV := Lib.hid hf
    have hp9 := rk_parts hf
    have HAF : Hid (aF l = 0) := Lib.hid hp9.2.1
    have HMI := Lib.hid (miss_ln hp9.2.2)
    obtain ⟨⟨hl1, hl10⟩, _⟩ := hp9
    clear hf
    have HBM : Hid (Box w2' w.heap.size #[.string (showN (rQ n d)), .string (showD (rQ n d))]) := Lib.hid (by rw [← HMI.out.2.2.2.1, ← HMI.out.2.2.2.2.1]; exact HB_m.out)
    clear HB_m
    have HSW := Lib.hid (HS.out.ext HW.out)
    generalize rQ n d = qm at *
    go_wp2_with fail
    refine (ranking_at l a c w2' HSW.out HAF.out hl1 hl10 (HT0.out.ext HW.out)).mono ?_
    rintro e w3' ⟨g4, c4, P, rfl, hpk, hps, _, hbz⟩
    have HPK := Lib.hid hpk
    have HPX := Lib.hid hps
    have HPL := Lib.hid hpk.len
    have hcap := (sl_caps hps).1
    replace HBM := Lib.hid (HBM.out.ext hbz)
    replace HSW := Lib.hid (HSW.out.ext hbz)
    replace HW := Lib.hid (ext_trans HW.out hbz)
    clear hpk hps hbz
    go_wp2
    have HB1 : Hid (Below w3'.heap.size w3' w3') := Lib.hid (Below.refl _ _)
    go_loopw [8, 9, 10, 24] (fun s _ _ i wr => ∃ k N : Nat, k ≤ l.length ∧ N ≤ k ∧ s = .int .i64 (N : Int) ∧ i = .int .i64 (k : Int) ∧ Hid (shN (vL l) (sTh l.length qm⁻¹) P 0 0 = shN (vL l) (sTh l.length qm⁻¹) (P.drop k) k N) ∧ Hid (Below w3'.heap.size w3' wr)) (fun _ _ _ i _ => l.length - (intOf i).toNat)
    case atStart => exact ⟨0, 0, by omega, by omega, rfl, rfl, rfl, HB1⟩
    case round =>
      clear HB1
      obtain ⟨k, N, hk, hN, rfl, rfl, HJ, HBL⟩ := hrel
      generalize hX : wr = X at *
      clear hX
      have hsb : w3'.heap.size ≤ X.heap.size := HBL.out.size
      by_cases hlt : k < l.length
      · have hkP : k < P.length := by rw [HPL.out]; exact hlt
        have hgP := wcs_get hkP
        have HIN : Hid (P[k] < l.length) := Lib.hid (HPK.out.mem.1 (List.getElem_mem hkP))
        have HST := Lib.hid (shN_step (v := vL l) (D := sTh l.length qm⁻¹) (N := N) hkP)
        generalize P[k] = i at *
        have hin := HIN.out
        obtain ⟨g5, o5, hp5, hc4⟩ := sl_addr HPX.out hgP
        cases hp5
        have c_p : X.cell? ⟨g4, k, none⟩ = some (.int .i64 (i : Int)) := by have h := (HBL.out.cell (World.block_lt_of_cell? _ _ hc4)).trans hc4; simpa using h
        clear hc4 hgP
        obtain ⟨pb, po, rfl, hd0, hd1⟩ := rt_elem HAF.out HSW.out hin
        have HFI := Lib.hid (vL_fits HAF.out hin)
        have HG : Hid (∀ p : GrownOf X, Below w3'.heap.size w3' p.v) := Lib.hid fun p => HBL.out.trans (p.b.mono hsb)
        have HGW : Hid (∀ p : GrownOf X, Tab p.v) := Lib.hid fun p => HT0.out.ext (ext_trans HW.out (HG.out p))
        have d0 : ∀ p : GrownOf X, p.v.cell? ⟨pb, po + i * 2, none⟩ = some (.string (showN (vL l i))) := fun p => ((HG.out p).cell (World.block_lt_of_cell? _ _ hd0)).trans hd0
        have d1 : ∀ p : GrownOf X, p.v.cell? ⟨pb, po + i * 2 + 1, none⟩ = some (.string (showD (vL l i))) := fun p => ((HG.out p).cell (World.block_lt_of_cell? _ _ hd1)).trans hd1
        have m0 : ∀ p : GrownOf X, p.v.cell? ⟨w.heap.size, 0, none⟩ = some (.string (showN qm)) := fun p => (HBM.out.ext (HG.out p)).2 0
        have m1 : ∀ p : GrownOf X, p.v.cell? ⟨w.heap.size, 1, none⟩ = some (.string (showD qm)) := fun p => (HBM.out.ext (HG.out p)).2 1
        have hi0 : (0 : Int) ≤ (i : Int) := Int.natCast_nonneg _
        have hi2 : (i : Int) < (l.length : Int) := by omega
        have hi3 : (i : Int).toNat = i := by omega
        have hk0 : (0 : Int) ≤ (k : Int) := Int.natCast_nonneg _
        have hk1 : (k : Int) < (l.length : Int) := by omega
        have hk3 : (k : Int).toNat = k := by omega
        clear hd0 hd1 hkP
        go_upto_region 9 with (fail)
        clear c_p
        obtain ⟨q1, hq1⟩ : ∃ x : Rat, ((k + 1 : Nat) : Rat) = x := ⟨_, rfl⟩
        obtain ⟨q2, hq2⟩ : ∃ x : Rat, ((l.length : Nat) : Rat) = x := ⟨_, rfl⟩
        obtain ⟨m, hm⟩ : ∃ x, q1 * qm = x := ⟨_, rfl⟩
        obtain ⟨t, ht9⟩ : ∃ x, q2 / m = x := ⟨_, rfl⟩
        obtain ⟨b, hb⟩ : ∃ x, decide (vL l i < t) = x := ⟨_, rfl⟩
        have HEQ := Lib.hid (And.intro hq1 (And.intro hq2 (And.intro hm (And.intro ht9 hb))))
        have HL1 : Hid (Nm.Ln 2 0 q1) := Lib.hid (by rw [← hq1]; exact Nm.Ln.nat (by omega))
        have HL2 : Hid (Nm.Ln 2 0 q2) := Lib.hid (by rw [← hq2]; exact Nm.Ln.nat (by omega))
        have HLM : Hid (Nm.Ln 102 100 m) := Lib.hid (by rw [← hm]; exact HL1.out.mul HMI.out.2.1)
        have HM0 : Hid (m ≠ 0) := Lib.hid (by rw [← hm, ← hq1]; exact Rat.ne_of_gt (Rat.mul_pos (Rat.natCast_pos.2 (Nat.succ_pos k)) HMI.out.1))
        have HLT : Hid (Nm.Ln 102 102 t) := Lib.hid (by rw [← ht9]; exact HL2.out.div HLM.out HM0.out)
        have HCM : Hid ((sTh l.length qm⁻¹) ≤ vL l i * ((k + 1 : Nat) : Rat) ↔ ¬ vL l i < t) := Lib.hid (by rw [← ht9, ← hm, ← hq1, ← hq2]; exact sh_iff HMI.out.1 (Nat.succ_pos k))
        have HF1 := Lib.hid (HL1.out.fits (by omega) (by omega))
        have HF2 := Lib.hid (HL2.out.fits (by omega) (by omega))
        have HFM := Lib.hid (HLM.out.fits (by omega) (by omega))
        have HFT := Lib.hid (HLT.out.fits (by omega) (by omega))
        have HFQ : Hid (Fits qm) := Lib.hid HMI.out.2.2.2.2.2
        have hwr : IntKind.i64.wrap ((k : Int) + 1) = (k : Int) + 1 := by rw [IntKind.wrap_i64]; omega
        clear hq1 hq2 hm ht9 hb
        have hW : ∀ p : GrownOf X, Calls Tryz.prog 26 #[.int .i64 ((k : Int) + 1)] p.v fun e w' => e = .returned (.agg #[.string (showN q1), .string (showD q1)]) ∧ Below p.v.heap.size p.v w' := fun p => by have h := whole_is ((k : Int) + 1) (k + 1) (by omega) (by omega) p.v (HGW.out p); rw [HEQ.out.1] at h; exact h
        have hV : ∀ p : GrownOf X, Calls Tryz.prog 26 #[.int .i64 (l.length : Int)] p.v fun e w' => e = .returned (.agg #[.string (showN q2), .string (showD q2)]) ∧ Below p.v.heap.size p.v w' := fun p => by have h := whole_is (l.length : Int) l.length rfl (by omega) p.v (HGW.out p); rw [HEQ.out.2.1] at h; exact h
        have hT : ∀ p : GrownOf X, Calls Tryz.prog 50 #[.agg #[.string (showN q1), .string (showD q1)], .agg #[.string (showN qm), .string (showD qm)]] p.v fun e w' => e = .returned (.agg #[.string (showN m), .string (showD m)]) ∧ Below p.v.heap.size p.v w' := fun p => times_is q1 qm m HEQ.out.2.2.1 HF1.out HFQ.out HFM.out p.v (HGW.out p)
        have hO : ∀ p : GrownOf X, Calls Tryz.prog 51 #[.agg #[.string (showN q2), .string (showD q2)], .agg #[.string (showN m), .string (showD m)]] p.v fun e w' => e = .returned (.agg #[.string (showN t), .string (showD t)]) ∧ Below p.v.heap.size p.v w' := fun p => over_is q2 m t HEQ.out.2.2.2.1 HF2.out HFM.out HM0.out HFT.out p.v (HGW.out p)
        have hL : ∀ p : GrownOf X, Calls Tryz.prog 24 #[.agg #[.string (showN (vL l i)), .string (showD (vL l i))], .agg #[.string (showN t), .string (showD t)]] p.v fun e w' => e = .returned (.bool b) ∧ Below p.v.heap.size p.v w' := fun p => less_is (vL l i) t b HEQ.out.2.2.2.2 HFI.out HFT.out p.v (HGW.out p)
        refine Nt.wp_region_below (by kernel_rfl) (by kernel_rfl) ?_
        repeat (quiet_step (first | (go_at_call 26; with_reducible refine Calls.grows (hW _)) | (go_at_call 26; with_reducible refine Calls.grows (hV _)) | (go_at_call 50; refine Calls.grows (hT _)) | (go_at_call 51; refine Calls.grows (hO _)) | (go_at_call 24; refine Calls.grows (hL _))))
        refine wpQuiet_nil ?_
        intro wq hw'
        have hbq := Nt.GrownOf.of hw'
        clear hw'
        clear hW hV hT hO hL d0 d1 m0 m1 HG HGW hwr
        replace HBL := Lib.hid (HBL.out.trans (hbq.mono hsb))
        clear hbq
        have HBB := Lib.hid HEQ.out.2.2.2.2
        cases b
        · replace HJ := Lib.hid (HJ.out.trans HST.out)
          rw [if_pos (HCM.out.2 (of_decide_eq_false HBB.out))] at HJ
          go_wp2
          go_roundw
          case rel => exact ⟨k + 1, k + 1, by omega, by omega, by go_num, by go_num, HJ, HBL⟩
          case measure => simp [intOf]; omega
        · replace HJ := Lib.hid (HJ.out.trans HST.out)
          rw [if_neg (fun h => HCM.out.1 h (of_decide_eq_true HBB.out))] at HJ
          go_wp2
          go_roundw
          case rel => exact ⟨k + 1, N, by omega, by omega, rfl, by go_num, HJ, HBL⟩
          case measure => simp [intOf]; omega
      · have HJ9 : Hid (shN (vL l) (sTh l.length qm⁻¹) P 0 0 = N) := Lib.hid (by rw [HJ.out, List.drop_of_length_le (by rw [HPL.out]; omega)]; rfl)
        have hN0 : (0 : Int) ≤ (N : Int) := Int.natCast_nonneg _
        have hNc : (N : Int) ≤ (c4 : Int) := by omega
        have hNl : N ≤ l.length := by omega
        replace HPX := Lib.hid (HPX.out.ext HBL.out)
        replace HW := Lib.hid (ext_trans HW.out HBL.out)
        clear HJ HBL hsb
        go_wp2_with (refine wpList_make_bools rfl _ _ rfl l.length rfl rfl rfl (by omega) ?_; intro w4' hO hbz hsz)
        have HBL : Hid (Below X.heap.size X w4') := Lib.hid hbz
        have HO : Hid (OwnZ w4' X.heap.size (bitL l.length [])) := Lib.hid (by rw [bitL_nil]; exact hO)
        clear hO hbz hsz
        go_wp2
        go_loopw [13, 54] (fun _ i wr => ∃ j : Nat, j ≤ N ∧ i = .int .i64 (j : Int) ∧ Hid (OwnZ wr X.heap.size (bitL l.length (P.take j))) ∧ Hid (Below X.heap.size X wr)) (fun _ i _ => N - (intOf i).toNat)
        case atStart => exact ⟨0, by omega, rfl, HO, HBL⟩
        case round =>
          clear HO HBL
          obtain ⟨j, hj, rfl, HO, HBL⟩ := hrel
          generalize hX : wr = X2 at *
          clear hX
          by_cases hlt2 : j < N
          · have hkP : j < P.length := by rw [HPL.out]; omega
            have hgP := wcs_get hkP
            have HIN : Hid (P[j] < l.length) := Lib.hid (HPK.out.mem.1 (List.getElem_mem hkP))
            have HTK := Lib.hid (take_snoc_at hkP)
            generalize P[j] = i at *
            have hin := HIN.out
            obtain ⟨pb5, po5, hp5, hc4⟩ := sl_addr HPX.out hgP
            cases hp5
            have c_p : X2.cell? ⟨g4, j, none⟩ = some (.int .i64 (i : Int)) := by have h := (HBL.out.cell (World.block_lt_of_cell? _ _ hc4)).trans hc4; simpa using h
            clear hc4 hgP hkP
            have hi0 : (0 : Int) ≤ (i : Int) := Int.natCast_nonneg _
            have hi2 : (i : Int) < (l.length : Int) := by omega
            have hi3 : (i : Int).toNat = i := by omega
            have hk0 : (0 : Int) ≤ (j : Int) := Int.natCast_nonneg _
            have hk1 : (j : Int) < (N : Int) := by omega
            have hk3 : (j : Int).toNat = j := by omega
            have HO9 : Hid (OwnZ (X2.setCell ⟨X.heap.size, i, none⟩ (.bool true)) X.heap.size (bitL l.length (P.take (j + 1)))) := Lib.hid (by have h := HO.out.set (i := i) (by rw [bitL_len]; exact HIN.out) true; rw [bitL_set HIN.out, ← HTK.out] at h; exact h)
            have HB9 : Hid (Below X.heap.size X (X2.setCell ⟨X.heap.size, i, none⟩ (.bool true))) := Lib.hid (HBL.out.setCell (p := ⟨X.heap.size, i, none⟩) (Nat.le_refl _) _)
            have c_o := HO.out.cell (i := i) (by rw [bitL_len]; exact HIN.out)
            have f_o : X2.frozen? ⟨X.heap.size, i, none⟩ = false := HO.out.frozen i
            go_wp2
            go_roundw
            case rel => exact ⟨j + 1, by omega, by go_num, HO9, HB9⟩
            case measure => simp [intOf]; omega
          · have hjN : j = N := by omega
            have HL9 : Hid (shareB (vL l) qm⁻¹ l.length = bitL l.length (P.take j)) := Lib.hid (by rw [hjN, ← bit_share HPK.out (fun k hk => (vL_ln HAF.out hk).1), HJ9.out])
            have HWZ : Hid (Below w.heap.size w X2) := Lib.hid (ext_trans HW.out HBL.out)
            clear hjN
            go_wp2
            exact bodyPost_ret (v := .tuple #[.slice (some ⟨X.heap.size, 0, none⟩) l.length l.length, .int .i64 0]) (by simp [results, Tryz.results22, go_sem]) rfl ⟨_, l.length, _, by rw [HV.out], by rw [HV.out, HL9.out]; have h := RowIf.good (c := l.length) HO.out (by rw [bitL_len]; exact Nat.le_refl _) (by unfold maxLen; omega); rw [bitL_len] at h; exact h, HWZ.out⟩
  · have hne : (rkF l n d != 0) = true := by simp [hf]
    have HNE := Lib.hid hf
    clear hf
    go_wp2
    exact bodyPost_ret (v := .tuple #[.slice none 0 0, .int .i64 (rkF l n d)]) (by simp [results, Tryz.results22, go_sem]) rfl ⟨none, 0, 0, rfl, RowIf.bad HNE.out, HW.out⟩
end Nt
end Go.Proofs.YtemenlcigengeaaGreatDoor
