/- sameVersion; the order of versions, in plain words. The walk of VersionsComeBack. Printed by gen_vread.py. -/
import Derived.Test.YtfdaakghkhecgaaDoorVb05
import Derived.Test.YtfdaakghkhecgaaDoorVb04
namespace Go.Proofs.YtfdaakghkhecgaaDoor
open Go.RowKit
def sameVer (x y : Ver) : Bool := decide (x.ma = y.ma) && decide (x.mi = y.mi) && decide (x.pa = y.pa) && decide (x.pre = y.pre)
set_option maxHeartbeats 4000000 in
theorem sameVersion_at (x y : Ver) (cs cs' : List Value) (w : World) (h : RepVer w x cs) (h' : RepVer w y cs') : Calls Tryd.prog 6 #[.agg cs.toArray, .agg cs'.toArray] w fun e w' => e = .returned (.bool (sameVer x y)) ∧ Below w.heap.size w w' := by
  obtain ⟨a, c, rfl, s1, h1⟩ := h
  obtain ⟨a', c', rfl, s2, h2⟩ := h'
  obtain ⟨ma, mi, pa, pre⟩ := x
  obtain ⟨ma', mi', pa', pre'⟩ := y
  simp only at s1 h1 s2 h2
  have HV : Hid (sameVer ⟨ma, mi, pa, pre⟩ ⟨ma', mi', pa', pre'⟩ = (decide (ma = ma') && decide (mi = mi') && decide (pa = pa') && decide (pre = pre'))) := rfl
  generalize sameVer ⟨ma, mi, pa, pre⟩ ⟨ma', mi', pa', pre'⟩ = N at *
  have hl1 := s1.len63
  have hl2 := s2.len63
  clear h1 h2
  go_enter Tryd.func6, Tryd.ntmps6
  go_wp2_with fail
  · refine (slicesEqual_strings pre pre' a a' c c' _ (s1.ext ?_) (s2.ext ?_)).mono ?_
    · go_grown
    · go_grown
    rintro e w5 ⟨rfl, hb5⟩
    have hbw5 : Below w.heap.size w w5 := Below.trans (by go_grown) (hb5.mono (by simp; omega))
    have hN : N = decide (pre = pre') := by rw [HV.out]; simp_all
    have HN := Lib.hid hN
    clear hN hb5 s1 s2 HV
    go_wp2
    go_ret
    exact ⟨congrArg (fun b => Ending.returned (.bool b)) HN.out.symm, hbw5⟩
  all_goals
    have hN : N = false := by rw [HV.out]; simp_all
    go_ret
    exact ⟨congrArg (fun b => Ending.returned (.bool b)) hN.symm, by go_grown⟩
end Go.Proofs.YtfdaakghkhecgaaDoor
namespace Go.Proofs.YtfdaakghkhecgaaDoor
open Go.RowKit
namespace Tx
open _root_.Go.Proofs.YtfdaakghkhecgaaDoor.Nm
open _root_.Go.Proofs.YtfdaakghkhecgaaDoor.Nt (RH RH.cell RH.box RH.lt RH.new RH.ext RH.fre RH.set RH.other)
theorem sameVer_self (x : Ver) : sameVer x x = true := by unfold sameVer; simp
theorem sameVersion_self (x : Ver) (cs cs' : List Value) (w : World) (h : RepVer w x cs) (h' : RepVer w x cs') : Calls Tryd.prog 6 #[.agg cs.toArray, .agg cs'.toArray] w fun e w' => e = .returned (.bool true) ∧ Below w.heap.size w w' := by
 have h9 := sameVersion_at x x cs cs' w h h'
 rw [sameVer_self] at h9
 exact h9
theorem verT_len {x : Ver} (h : chkVer x = 0) : (verT x).length ≤ 1048576 := by
 obtain ⟨a, b, c, ⟨h1, h2, h3⟩, e, h4, h5⟩ := chk_ok h
 have l1 := decS_length (x := a) (k := 6) (by omega) (by decide)
 have l2 := decS_length (x := b) (k := 6) (by omega) (by decide)
 have l3 := decS_length (x := c) (k := 6) (by omega) (by decide)
 have l4 : (preT x.pre).length ≤ 300 := by
  unfold preT
  split
  ·exact Nat.zero_le _
  ·have := joinL_len (c := 46) (l := x.pre.map (·.data.toList)) (k := 20) (fun y hy => by
    obtain ⟨s, hs, rfl⟩ := List.mem_map.1 hy
    have := h5 s hs
    rw [show s.data.toList.length = s.size from Array.length_toList]; exact this)
   rw [List.length_map] at this
   have h9 : x.pre.length * (20 + 1) ≤ 10 * 21 := Nat.mul_le_mul_right _ h4
   rw [List.length_cons]; omega
 generalize x.pre = p at *
 subst e
 unfold verT
 simp only [Int.toNat_natCast, List.length_append, List.length_cons]
 omega
set_option maxRecDepth 100000 in
set_option maxHeartbeats 16000000 in
theorem lawVcb_at (x : Ver) (cx : List Value) (s : ByteArray) (hs : s.size ≤ 1048576) (w : World) (hx : RepVer w x cx) (ht : Tb w) (hm : Ml w) : Calls Tryd.prog 3 #[.agg cx.toArray, .string s] w fun e w' => e = .returned (.bool true) ∧ Below w.heap.size w w' := by
 obtain ⟨ax, cx, rfl, sx, zx⟩ := hx
 have HX0 : Hid (RepVer w x [.int .i64 (x.ma), .int .i64 (x.mi), .int .i64 (x.pa), .slice ax x.pre.length cx]) := Lib.hid ⟨ax, cx, rfl, sx, zx⟩
 have HS0 := Lib.hid hs
 have HML := Lib.hid hm
 have HT0 := Lib.hid ht
 clear sx zx hs hm ht
 obtain ⟨fx, hf⟩ : ∃ z, chkVer x = z := ⟨_, rfl⟩
 have HF := Lib.hid hf
 clear hf
 obtain ⟨tx, htx⟩ : ∃ z, shS x = z := ⟨_, rfl⟩
 have HTX := Lib.hid htx
 clear htx
 go_enter Tryd.func3, Tryd.ntmps3
 go_upto_region 1 with (fail)
 refine wp_vr1 fun w1' hbz hR0 => ?_
 have HR_v : Hid (RH w1' w.heap.size #[.int .i64 (x.ma), .int .i64 (x.mi), .int .i64 (x.pa), .slice ax x.pre.length cx] 24) := Lib.hid hR0
 have HW := Lib.hid hbz
 clear hbz hR0
 have HX : Hid (RepVer w1' x [.int .i64 (x.ma), .int .i64 (x.mi), .int .i64 (x.pa), .slice ax x.pre.length cx]) := Lib.hid (HX0.out.ext HW.out)
 clear HX0
 obtain ⟨c_v_0, c_v_1, c_v_2, c_v_3⟩ := zs4 HR_v.out
 go_wp2_with fail
 refine (showVersion_at x _ w1' HX.out (HT0.out.ext HW.out)).mono ?_
 rintro e w2' ⟨rfl, hbz⟩
 rw [HF.out, HTX.out]
 replace HR_v := Lib.hid (HR_v.out.ext hbz)
 replace HX := Lib.hid (HX.out.ext hbz)
 replace HW := Lib.hid (ext_trans HW.out hbz)
 clear c_v_0 c_v_1 c_v_2 c_v_3
 clear hbz
 by_cases h0 : fx = 0
 ·subst h0
  have HST : Hid (tx = stB (verT x)) := Lib.hid (by rw [← HTX.out]; unfold shS; rw [if_pos HF.out])
  have HVO : Hid (verO tx.data.toList = some x) := Lib.hid (by rw [HST.out, stB_list]; exact verO_show HF.out)
  have HTZ : Hid (tx.size ≤ 1048576) := Lib.hid (by rw [HST.out, stB_size]; exact verT_len HF.out)
  go_wp2_with fail
  refine (readVer_at tx HTZ.out w2' (HML.out.ext HW.out)).mono ?_
  rintro e w3' ⟨x1, cs1, f1, rfl, hrep, hcs, hbz⟩
  obtain ⟨rfl, rfl⟩ : x = x1 ∧ f1 = 0 := by
   rcases hcs with ⟨h1, h2⟩ | ⟨h1, _⟩
   ·rw [HVO.out] at h1; injection h1 with h1; exact ⟨h1, h2⟩
   ·rw [HVO.out] at h1; cases h1
  obtain ⟨a1, c1, rfl, s1, z1⟩ := hrep
  have hrr : RepVer w3' x [.int .i64 (x.ma), .int .i64 (x.mi), .int .i64 (x.pa), .slice a1 x.pre.length c1] := ⟨a1, c1, rfl, s1, z1⟩
  clear hcs s1 z1 HVO HST
  replace HR_v := Lib.hid (HR_v.out.ext hbz)
  replace HX := Lib.hid (HX.out.ext hbz)
  replace HW := Lib.hid (ext_trans HW.out hbz)
  clear hbz
  have HRp : Hid (RepVer w3' x [.int .i64 (x.ma), .int .i64 (x.mi), .int .i64 (x.pa), .slice a1 x.pre.length c1]) := Lib.hid hrr
  clear hrr
  go_upto_region 4 with (fail)
  refine wp_vr1 fun w4' hbz hR0 => ?_
  have lt_v_p : w.heap.size < w3'.heap.size := HR_v.out.lt
  have le_p : w.heap.size ≤ w3'.heap.size := HW.out.size
  replace HR_v := Lib.hid (HR_v.out.ext hbz)
  replace HX := Lib.hid (HX.out.ext hbz)
  replace HRp := Lib.hid (HRp.out.ext hbz)
  replace HW := Lib.hid (ext_trans HW.out hbz)
  clear hbz
  have HR_p : Hid (RH w4' w3'.heap.size #[.int .i64 (x.ma), .int .i64 (x.mi), .int .i64 (x.pa), .slice a1 x.pre.length c1] 24) := Lib.hid hR0
  clear hR0
  generalize w3'.heap.size = b_p at *
  obtain ⟨c_v_0, c_v_1, c_v_2, c_v_3⟩ := zs4 HR_v.out
  obtain ⟨c_p_0, c_p_1, c_p_2, c_p_3⟩ := zs4 HR_p.out
  go_wp2_with fail
  refine (sameVersion_self x _ _ w4' HRp.out HX.out).mono ?_
  rintro e w5' ⟨rfl, hbz⟩
  replace HR_v := Lib.hid (HR_v.out.ext hbz)
  replace HR_p := Lib.hid (HR_p.out.ext hbz)
  replace HX := Lib.hid (HX.out.ext hbz)
  replace HRp := Lib.hid (HRp.out.ext hbz)
  replace HW := Lib.hid (ext_trans HW.out hbz)
  clear c_v_0 c_v_1 c_v_2 c_v_3 c_p_0 c_p_1 c_p_2 c_p_3
  clear hbz
  clear HR_p
  clear HRp
  go_wp2_with fail
  refine (readVer_at s HS0.out w5' (HML.out.ext HW.out)).mono ?_
  rintro e w6' ⟨x2, cs1, f2, rfl, hrep, hcs, hbz⟩
  obtain ⟨a2, c2, rfl, s1, z1⟩ := hrep
  have HCS := Lib.hid hcs
  have hrr : RepVer w6' x2 [.int .i64 (x2.ma), .int .i64 (x2.mi), .int .i64 (x2.pa), .slice a2 x2.pre.length c2] := ⟨a2, c2, rfl, s1, z1⟩
  clear hcs s1 z1
  replace HR_v := Lib.hid (HR_v.out.ext hbz)
  replace HX := Lib.hid (HX.out.ext hbz)
  replace HW := Lib.hid (ext_trans HW.out hbz)
  clear hbz
  have HRq : Hid (RepVer w6' x2 [.int .i64 (x2.ma), .int .i64 (x2.mi), .int .i64 (x2.pa), .slice a2 x2.pre.length c2]) := Lib.hid hrr
  clear hrr
  go_upto_region 7 with (fail)
  refine wp_vr1 fun w7' hbz hR0 => ?_
  have lt_v_q : w.heap.size < w6'.heap.size := HR_v.out.lt
  have le_q : w.heap.size ≤ w6'.heap.size := HW.out.size
  replace HR_v := Lib.hid (HR_v.out.ext hbz)
  replace HX := Lib.hid (HX.out.ext hbz)
  replace HRq := Lib.hid (HRq.out.ext hbz)
  replace HW := Lib.hid (ext_trans HW.out hbz)
  clear hbz
  have HR_q : Hid (RH w7' w6'.heap.size #[.int .i64 (x2.ma), .int .i64 (x2.mi), .int .i64 (x2.pa), .slice a2 x2.pre.length c2] 24) := Lib.hid hR0
  clear hR0
  generalize w6'.heap.size = b_q at *
  by_cases h2 : f2 = 0
  ·subst h2
   have HV : Hid (verO s.data.toList = some x2) := Lib.hid (by rcases HCS.out with h | h; exact h.1; exact absurd h.2.2 (by decide))
   have HBK := Lib.hid (verO_back HV.out)
   have HSS : Hid (shS x2 = s) := Lib.hid (by unfold shS; rw [if_pos HBK.out.2, HBK.out.1]; exact stB_self s)
   clear HV HCS
   obtain ⟨c_q_0, c_q_1, c_q_2, c_q_3⟩ := zs4 HR_q.out
   go_wp2_with fail
   refine (showVersion_at x2 _ w7' HRq.out (HT0.out.ext HW.out)).mono ?_
   rintro e w8' ⟨rfl, hbz⟩
   rw [HSS.out, HBK.out.2]
   replace HR_v := Lib.hid (HR_v.out.ext hbz)
   replace HR_q := Lib.hid (HR_q.out.ext hbz)
   replace HX := Lib.hid (HX.out.ext hbz)
   replace HRq := Lib.hid (HRq.out.ext hbz)
   replace HW := Lib.hid (ext_trans HW.out hbz)
   clear c_q_0 c_q_1 c_q_2 c_q_3
   clear hbz
   go_wp2
   go_ret
   exact ⟨by simp, HW.out⟩
  ·have hne : (f2 != 0) = true := by simpa using h2
   clear h2
   go_wp2
   go_ret
   exact ⟨rfl, HW.out⟩
 ·have hne : (fx == 0) = false := beq_eq_false_iff_ne.2 h0
  clear h0
  go_wp2_with fail
  refine (readVer_at s HS0.out w2' (HML.out.ext HW.out)).mono ?_
  rintro e w3' ⟨x2, cs1, f2, rfl, hrep, hcs, hbz⟩
  obtain ⟨a2, c2, rfl, s1, z1⟩ := hrep
  have HCS := Lib.hid hcs
  have hrr : RepVer w3' x2 [.int .i64 (x2.ma), .int .i64 (x2.mi), .int .i64 (x2.pa), .slice a2 x2.pre.length c2] := ⟨a2, c2, rfl, s1, z1⟩
  clear hcs s1 z1
  replace HR_v := Lib.hid (HR_v.out.ext hbz)
  replace HX := Lib.hid (HX.out.ext hbz)
  replace HW := Lib.hid (ext_trans HW.out hbz)
  clear hbz
  have HRq : Hid (RepVer w3' x2 [.int .i64 (x2.ma), .int .i64 (x2.mi), .int .i64 (x2.pa), .slice a2 x2.pre.length c2]) := Lib.hid hrr
  clear hrr
  go_upto_region 7 with (fail)
  refine wp_vr1 fun w4' hbz hR0 => ?_
  have lt_v_q : w.heap.size < w3'.heap.size := HR_v.out.lt
  have le_q : w.heap.size ≤ w3'.heap.size := HW.out.size
  replace HR_v := Lib.hid (HR_v.out.ext hbz)
  replace HX := Lib.hid (HX.out.ext hbz)
  replace HRq := Lib.hid (HRq.out.ext hbz)
  replace HW := Lib.hid (ext_trans HW.out hbz)
  clear hbz
  have HR_q : Hid (RH w4' w3'.heap.size #[.int .i64 (x2.ma), .int .i64 (x2.mi), .int .i64 (x2.pa), .slice a2 x2.pre.length c2] 24) := Lib.hid hR0
  clear hR0
  generalize w3'.heap.size = b_q at *
  by_cases h2 : f2 = 0
  ·subst h2
   have HV : Hid (verO s.data.toList = some x2) := Lib.hid (by rcases HCS.out with h | h; exact h.1; exact absurd h.2.2 (by decide))
   have HBK := Lib.hid (verO_back HV.out)
   have HSS : Hid (shS x2 = s) := Lib.hid (by unfold shS; rw [if_pos HBK.out.2, HBK.out.1]; exact stB_self s)
   clear HV HCS
   obtain ⟨c_q_0, c_q_1, c_q_2, c_q_3⟩ := zs4 HR_q.out
   go_wp2_with fail
   refine (showVersion_at x2 _ w4' HRq.out (HT0.out.ext HW.out)).mono ?_
   rintro e w5' ⟨rfl, hbz⟩
   rw [HSS.out, HBK.out.2]
   replace HR_v := Lib.hid (HR_v.out.ext hbz)
   replace HR_q := Lib.hid (HR_q.out.ext hbz)
   replace HX := Lib.hid (HX.out.ext hbz)
   replace HRq := Lib.hid (HRq.out.ext hbz)
   replace HW := Lib.hid (ext_trans HW.out hbz)
   clear c_q_0 c_q_1 c_q_2 c_q_3
   clear hbz
   go_wp2
   go_ret
   exact ⟨by simp, HW.out⟩
  ·have hne : (f2 != 0) = true := by simpa using h2
   clear h2
   go_wp2
   go_ret
   exact ⟨rfl, HW.out⟩
end Tx
end Go.Proofs.YtfdaakghkhecgaaDoor
