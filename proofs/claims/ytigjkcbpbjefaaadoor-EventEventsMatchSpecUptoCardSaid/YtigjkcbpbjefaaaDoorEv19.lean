/- The reference's Check of events; the order of events. Read of both. Printed by gen_evr.py. -/
import Derived.Test.YtigjkcbpbjefaaaDoorEv01
import Derived.Test.YtigjkcbpbjefaaaDoorEv16
import Derived.Test.YtigjkcbpbjefaaaDoorProg
import Derived.Test.YtigjkcbpbjefaaaDoorEv00
import Derived.Test.YtigjkcbpbjefaaaDoorEv02
import Derived.Test.YtigjkcbpbjefaaaDoorEv10
import Derived.Test.YtigjkcbpbjefaaaDoorEv04
import Derived.Test.YtigjkcbpbjefaaaDoorEv05
import Derived.Test.YtigjkcbpbjefaaaDoorEv17
import Derived.Test.YtigjkcbpbjefaaaDoorEv03
import Derived.Test.YtigjkcbpbjefaaaDoorEv06
import Derived.Test.YtigjkcbpbjefaaaDoorEv18
namespace Go.Proofs.YtigjkcbpbjefaaaDoor
open Go.RowKit
set_option maxHeartbeats 8000000 in
set_option maxRecDepth 100000 in
theorem ref7_Check (e : Ev) (he : e.ok) (w : World) : Calls Tryd.prog 10 #[.agg (evC e)] w fun r w' => r = .returned (.int .i64 (checkE e)) ∧ Below w.heap.size w w' := by
  obtain ⟨h1, h2, h3⟩ := he
  go_enter Tryd.func10, Tryd.ntmps10
  go_wp2_with (first | (go_at_call 18; refine (ref_IsName _ (by assumption) _).mono ?_; rintro e w' ⟨rfl, rfl⟩) | (go_at_call 20; refine (ref_IsKey _ (by assumption) _).mono ?_; rintro e w' ⟨rfl, rfl⟩) | (go_at_call 19; refine (ref_IsTime _ _).mono ?_; rintro e w' ⟨rfl, rfl⟩))
  all_goals go_ret
  all_goals refine ⟨ret_int ?_, by go_grown⟩
  all_goals first | (simp_all [checkE]; done) | (simp_all [checkE, withinB]; done) | (simp_all [checkE, withinB]; omega) | (unfold checkE withinB at *; (repeat' split) <;> simp_all <;> omega)
end Go.Proofs.YtigjkcbpbjefaaaDoor
namespace Go.Proofs.YtigjkcbpbjefaaaDoor
open Go.RowKit
namespace Tx
open _root_.Go.Proofs.YtigjkcbpbjefaaaDoor.Nm
open _root_.Go.Proofs.YtigjkcbpbjefaaaDoor.Nt (RH RH.cell RH.box RH.lt RH.new RH.ext RH.fre RH.set RH.other)
set_option maxRecDepth 100000 in
set_option maxHeartbeats 16000000 in
theorem refReadE_at (s : ByteArray) (hs : s.size ≤ 1048576) (w : World) (hm : Ml w) : Calls Tryd.prog 8 #[.string s] w fun e w' => e = .returned (.tuple #[.agg (evC (rdE s.data.toList).1), .int .i64 (rdE s.data.toList).2]) ∧ Below w.heap.size w w' := by
 have Hhs := Lib.hid hs
 have Hhm := Lib.hid hm
 clear hs hm
 go_enter Tryd.func8, Tryd.ntmps8
 go_upto_region 1 with (fail)
 refine wp_vr1 fun w1' hbz hR0 => ?_
 have HR_o : Hid (RH w1' w.heap.size #[.string ⟨#[]⟩, .int .i64 0, .int .i64 0, .int .i64 0, .string ⟨#[]⟩, .string ⟨#[]⟩, .int .i64 0, .int .i64 0] 23) := Lib.hid hR0
 have HW := Lib.hid hbz
 clear hbz hR0
 go_wp2_with fail
 refine (refread_at s Hhs.out w1' (Hhm.out.ext HW.out)).mono ?_
 rintro e w2' ⟨x, b, rfl, hx, hcs, hbz⟩
 obtain ⟨sh, nu, ki, ti, ke, na, ar, nn⟩ := x
 have HX := Lib.hid hx
 have HCS := Lib.hid hcs
 clear hx hcs
 replace HR_o := Lib.hid (HR_o.out.ext hbz)
 replace HW := Lib.hid (ext_trans HW.out hbz)
 clear hbz
 go_upto_region 2 with (fail)
 refine wp_vr1 fun w3' hbz hR0 => ?_
 have lt_o_v : w.heap.size < w2'.heap.size := HR_o.out.lt
 have le_v : w.heap.size ≤ w2'.heap.size := HW.out.size
 replace HR_o := Lib.hid (HR_o.out.ext hbz)
 replace HW := Lib.hid (ext_trans HW.out hbz)
 clear hbz
 have HR_v : Hid (RH w3' w2'.heap.size #[.string sh, .int .i64 (nu), .int .i64 (ki), .int .i64 (ti), .string ke, .string na, .int .i64 (ar), .int .i64 (nn)] 23) := Lib.hid hR0
 clear hR0
 generalize w2'.heap.size = b_v at *
 cases b
 ·have HN := Lib.hid (rdE_none (l := s.data.toList) (by rcases HCS.out with ⟨_, h⟩ | ⟨h, _⟩; cases h; exact h))
  clear HCS
  clear HR_v
  have c_o_0 : w3'.cell? ⟨w.heap.size, 0, none⟩ = some (.string ⟨#[]⟩) := (HR_o.out.cell 0).trans rfl
  have c_o_1 : w3'.cell? ⟨w.heap.size, 1, none⟩ = some (.int .i64 0) := (HR_o.out.cell 1).trans rfl
  have c_o_2 : w3'.cell? ⟨w.heap.size, 2, none⟩ = some (.int .i64 0) := (HR_o.out.cell 2).trans rfl
  have c_o_3 : w3'.cell? ⟨w.heap.size, 3, none⟩ = some (.int .i64 0) := (HR_o.out.cell 3).trans rfl
  have c_o_4 : w3'.cell? ⟨w.heap.size, 4, none⟩ = some (.string ⟨#[]⟩) := (HR_o.out.cell 4).trans rfl
  have c_o_5 : w3'.cell? ⟨w.heap.size, 5, none⟩ = some (.string ⟨#[]⟩) := (HR_o.out.cell 5).trans rfl
  have c_o_6 : w3'.cell? ⟨w.heap.size, 6, none⟩ = some (.int .i64 0) := (HR_o.out.cell 6).trans rfl
  have c_o_7 : w3'.cell? ⟨w.heap.size, 7, none⟩ = some (.int .i64 0) := (HR_o.out.cell 7).trans rfl
  have f_o_0 := HR_o.out.fre 0
  have f_o_1 := HR_o.out.fre 1
  have f_o_2 := HR_o.out.fre 2
  have f_o_3 := HR_o.out.fre 3
  have f_o_4 := HR_o.out.fre 4
  have f_o_5 := HR_o.out.fre 5
  have f_o_6 := HR_o.out.fre 6
  have f_o_7 := HR_o.out.fre 7
  go_wp2
  obtain ⟨w4', hX⟩ : ∃ Z9, Z9 = ((((((((w3'.setCell ⟨w.heap.size, 0, none⟩ (.string ⟨#[]⟩)).setCell ⟨w.heap.size, 1, none⟩ (.int .i64 0)).setCell ⟨w.heap.size, 2, none⟩ (.int .i64 0)).setCell ⟨w.heap.size, 3, none⟩ (.int .i64 0)).setCell ⟨w.heap.size, 4, none⟩ (.string ⟨#[]⟩)).setCell ⟨w.heap.size, 5, none⟩ (.string ⟨#[]⟩)).setCell ⟨w.heap.size, 6, none⟩ (.int .i64 0)).setCell ⟨w.heap.size, 7, none⟩ (.int .i64 0)) := ⟨_, rfl⟩
  rw [← hX]
  have n_o : Hid (RH w4' w.heap.size #[.string ⟨#[]⟩, .int .i64 0, .int .i64 0, .int .i64 0, .string ⟨#[]⟩, .string ⟨#[]⟩, .int .i64 0, .int .i64 0] 23) := by rw [hX]; exact Lib.hid (((((((((HR_o.out).set 0 (.string ⟨#[]⟩)).set 1 (.int .i64 0)).set 2 (.int .i64 0)).set 3 (.int .i64 0)).set 4 (.string ⟨#[]⟩)).set 5 (.string ⟨#[]⟩)).set 6 (.int .i64 0)).set 7 (.int .i64 0))
  have HK_ : ∀ p : Addr, p.block ≠ w.heap.size → w4'.cell? p = w3'.cell? p := fun p hp => by rw [hX]; exact (cs_vr hp).trans ((cs_vr hp).trans ((cs_vr hp).trans ((cs_vr hp).trans ((cs_vr hp).trans ((cs_vr hp).trans ((cs_vr hp).trans (cs_vr hp)))))))
  have nW : Hid (Below w.heap.size w w4') := by rw [hX]; exact Lib.hid (zzw (zzw (zzw (zzw (zzw (zzw (zzw (zzw (HW.out) (by omega)) (by omega)) (by omega)) (by omega)) (by omega)) (by omega)) (by omega)) (by omega))
  clear c_o_0 c_o_1 c_o_2 c_o_3 c_o_4 c_o_5 c_o_6 c_o_7 f_o_0 f_o_1 f_o_2 f_o_3 f_o_4 f_o_5 f_o_6 f_o_7
  clear hX HK_ HW HR_o 
  have HR_o := n_o; clear n_o
  have HW := nW; clear nW
  have c_o_0 : w4'.cell? ⟨w.heap.size, 0, none⟩ = some (.string ⟨#[]⟩) := (HR_o.out.cell 0).trans rfl
  have c_o_1 : w4'.cell? ⟨w.heap.size, 1, none⟩ = some (.int .i64 0) := (HR_o.out.cell 1).trans rfl
  have c_o_2 : w4'.cell? ⟨w.heap.size, 2, none⟩ = some (.int .i64 0) := (HR_o.out.cell 2).trans rfl
  have c_o_3 : w4'.cell? ⟨w.heap.size, 3, none⟩ = some (.int .i64 0) := (HR_o.out.cell 3).trans rfl
  have c_o_4 : w4'.cell? ⟨w.heap.size, 4, none⟩ = some (.string ⟨#[]⟩) := (HR_o.out.cell 4).trans rfl
  have c_o_5 : w4'.cell? ⟨w.heap.size, 5, none⟩ = some (.string ⟨#[]⟩) := (HR_o.out.cell 5).trans rfl
  have c_o_6 : w4'.cell? ⟨w.heap.size, 6, none⟩ = some (.int .i64 0) := (HR_o.out.cell 6).trans rfl
  have c_o_7 : w4'.cell? ⟨w.heap.size, 7, none⟩ = some (.int .i64 0) := (HR_o.out.cell 7).trans rfl
  exact bodyPost_ret (v := .tuple #[.agg #[.string ⟨#[]⟩, .int .i64 0, .int .i64 0, .int .i64 0, .string ⟨#[]⟩, .string ⟨#[]⟩, .int .i64 0, .int .i64 0], .int .i64 10]) (by simp [results, Tryd.results8, go_sem, c_o_0, c_o_1, c_o_2, c_o_3, c_o_4, c_o_5, c_o_6, c_o_7]) rfl ⟨by first | (rw [HN.out]; done) | (rw [HN.out]; rfl), HW.out⟩
 ·have HQ : Hid (readO s.data.toList = some ⟨sh, nu, ki, ti, ke, na, ar, nn⟩) := Lib.hid (by rcases HCS.out with ⟨h, _⟩ | ⟨_, h⟩; exact h; cases h)
  clear HCS
  obtain ⟨f, hf⟩ : ∃ z, checkE ⟨sh, nu, ki, ti, ke, na, ar, nn⟩ = z := ⟨_, rfl⟩
  have HF := Lib.hid hf
  clear hf
  have c_v_0 : w3'.cell? ⟨b_v, 0, none⟩ = some (.string sh) := (HR_v.out.cell 0).trans rfl
  have c_v_1 : w3'.cell? ⟨b_v, 1, none⟩ = some (.int .i64 (nu)) := (HR_v.out.cell 1).trans rfl
  have c_v_2 : w3'.cell? ⟨b_v, 2, none⟩ = some (.int .i64 (ki)) := (HR_v.out.cell 2).trans rfl
  have c_v_3 : w3'.cell? ⟨b_v, 3, none⟩ = some (.int .i64 (ti)) := (HR_v.out.cell 3).trans rfl
  have c_v_4 : w3'.cell? ⟨b_v, 4, none⟩ = some (.string ke) := (HR_v.out.cell 4).trans rfl
  have c_v_5 : w3'.cell? ⟨b_v, 5, none⟩ = some (.string na) := (HR_v.out.cell 5).trans rfl
  have c_v_6 : w3'.cell? ⟨b_v, 6, none⟩ = some (.int .i64 (ar)) := (HR_v.out.cell 6).trans rfl
  have c_v_7 : w3'.cell? ⟨b_v, 7, none⟩ = some (.int .i64 (nn)) := (HR_v.out.cell 7).trans rfl
  go_wp2_with fail
  refine (ref7_Check ⟨sh, nu, ki, ti, ke, na, ar, nn⟩ HX.out w3').mono ?_
  rintro e w4' ⟨rfl, hbz⟩
  rw [HF.out]
  replace HR_o := Lib.hid (HR_o.out.ext hbz)
  replace HR_v := Lib.hid (HR_v.out.ext hbz)
  replace HW := Lib.hid (ext_trans HW.out hbz)
  clear c_v_0 c_v_1 c_v_2 c_v_3 c_v_4 c_v_5 c_v_6 c_v_7
  clear hbz
  by_cases h0 : f = 0
  ·subst h0
   have HN := Lib.hid (rdE_yes HQ.out HF.out)
   have c_v_0 : w4'.cell? ⟨b_v, 0, none⟩ = some (.string sh) := (HR_v.out.cell 0).trans rfl
   have c_v_1 : w4'.cell? ⟨b_v, 1, none⟩ = some (.int .i64 (nu)) := (HR_v.out.cell 1).trans rfl
   have c_v_2 : w4'.cell? ⟨b_v, 2, none⟩ = some (.int .i64 (ki)) := (HR_v.out.cell 2).trans rfl
   have c_v_3 : w4'.cell? ⟨b_v, 3, none⟩ = some (.int .i64 (ti)) := (HR_v.out.cell 3).trans rfl
   have c_v_4 : w4'.cell? ⟨b_v, 4, none⟩ = some (.string ke) := (HR_v.out.cell 4).trans rfl
   have c_v_5 : w4'.cell? ⟨b_v, 5, none⟩ = some (.string na) := (HR_v.out.cell 5).trans rfl
   have c_v_6 : w4'.cell? ⟨b_v, 6, none⟩ = some (.int .i64 (ar)) := (HR_v.out.cell 6).trans rfl
   have c_v_7 : w4'.cell? ⟨b_v, 7, none⟩ = some (.int .i64 (nn)) := (HR_v.out.cell 7).trans rfl
   have c_o_0 : w4'.cell? ⟨w.heap.size, 0, none⟩ = some (.string ⟨#[]⟩) := (HR_o.out.cell 0).trans rfl
   have c_o_1 : w4'.cell? ⟨w.heap.size, 1, none⟩ = some (.int .i64 0) := (HR_o.out.cell 1).trans rfl
   have c_o_2 : w4'.cell? ⟨w.heap.size, 2, none⟩ = some (.int .i64 0) := (HR_o.out.cell 2).trans rfl
   have c_o_3 : w4'.cell? ⟨w.heap.size, 3, none⟩ = some (.int .i64 0) := (HR_o.out.cell 3).trans rfl
   have c_o_4 : w4'.cell? ⟨w.heap.size, 4, none⟩ = some (.string ⟨#[]⟩) := (HR_o.out.cell 4).trans rfl
   have c_o_5 : w4'.cell? ⟨w.heap.size, 5, none⟩ = some (.string ⟨#[]⟩) := (HR_o.out.cell 5).trans rfl
   have c_o_6 : w4'.cell? ⟨w.heap.size, 6, none⟩ = some (.int .i64 0) := (HR_o.out.cell 6).trans rfl
   have c_o_7 : w4'.cell? ⟨w.heap.size, 7, none⟩ = some (.int .i64 0) := (HR_o.out.cell 7).trans rfl
   have f_o_0 := HR_o.out.fre 0
   have f_o_1 := HR_o.out.fre 1
   have f_o_2 := HR_o.out.fre 2
   have f_o_3 := HR_o.out.fre 3
   have f_o_4 := HR_o.out.fre 4
   have f_o_5 := HR_o.out.fre 5
   have f_o_6 := HR_o.out.fre 6
   have f_o_7 := HR_o.out.fre 7
   go_wp2
   obtain ⟨w5', hX⟩ : ∃ Z9, Z9 = ((((((((w4'.setCell ⟨w.heap.size, 0, none⟩ (.string sh)).setCell ⟨w.heap.size, 1, none⟩ (.int .i64 (nu))).setCell ⟨w.heap.size, 2, none⟩ (.int .i64 (ki))).setCell ⟨w.heap.size, 3, none⟩ (.int .i64 (ti))).setCell ⟨w.heap.size, 4, none⟩ (.string ke)).setCell ⟨w.heap.size, 5, none⟩ (.string na)).setCell ⟨w.heap.size, 6, none⟩ (.int .i64 (ar))).setCell ⟨w.heap.size, 7, none⟩ (.int .i64 (nn))) := ⟨_, rfl⟩
   rw [← hX]
   have n_o : Hid (RH w5' w.heap.size #[.string sh, .int .i64 (nu), .int .i64 (ki), .int .i64 (ti), .string ke, .string na, .int .i64 (ar), .int .i64 (nn)] 23) := by rw [hX]; exact Lib.hid (((((((((HR_o.out).set 0 (.string sh)).set 1 (.int .i64 (nu))).set 2 (.int .i64 (ki))).set 3 (.int .i64 (ti))).set 4 (.string ke)).set 5 (.string na)).set 6 (.int .i64 (ar))).set 7 (.int .i64 (nn)))
   have n_v : Hid (RH w5' b_v #[.string sh, .int .i64 (nu), .int .i64 (ki), .int .i64 (ti), .string ke, .string na, .int .i64 (ar), .int .i64 (nn)] 23) := by rw [hX]; exact Lib.hid (zzo (zzo (zzo (zzo (zzo (zzo (zzo (zzo (HR_v.out) (by omega)) (by omega)) (by omega)) (by omega)) (by omega)) (by omega)) (by omega)) (by omega))
   have HK_ : ∀ p : Addr, p.block ≠ w.heap.size → w5'.cell? p = w4'.cell? p := fun p hp => by rw [hX]; exact (cs_vr hp).trans ((cs_vr hp).trans ((cs_vr hp).trans ((cs_vr hp).trans ((cs_vr hp).trans ((cs_vr hp).trans ((cs_vr hp).trans (cs_vr hp)))))))
   have nW : Hid (Below w.heap.size w w5') := by rw [hX]; exact Lib.hid (zzw (zzw (zzw (zzw (zzw (zzw (zzw (zzw (HW.out) (by omega)) (by omega)) (by omega)) (by omega)) (by omega)) (by omega)) (by omega)) (by omega))
   clear c_v_0 c_v_1 c_v_2 c_v_3 c_v_4 c_v_5 c_v_6 c_v_7 c_o_0 c_o_1 c_o_2 c_o_3 c_o_4 c_o_5 c_o_6 c_o_7 f_o_0 f_o_1 f_o_2 f_o_3 f_o_4 f_o_5 f_o_6 f_o_7
   clear hX HK_ HW HR_o HR_v 
   have HR_o := n_o; clear n_o
   have HR_v := n_v; clear n_v
   have HW := nW; clear nW
   have c_o_0 : w5'.cell? ⟨w.heap.size, 0, none⟩ = some (.string sh) := (HR_o.out.cell 0).trans rfl
   have c_o_1 : w5'.cell? ⟨w.heap.size, 1, none⟩ = some (.int .i64 (nu)) := (HR_o.out.cell 1).trans rfl
   have c_o_2 : w5'.cell? ⟨w.heap.size, 2, none⟩ = some (.int .i64 (ki)) := (HR_o.out.cell 2).trans rfl
   have c_o_3 : w5'.cell? ⟨w.heap.size, 3, none⟩ = some (.int .i64 (ti)) := (HR_o.out.cell 3).trans rfl
   have c_o_4 : w5'.cell? ⟨w.heap.size, 4, none⟩ = some (.string ke) := (HR_o.out.cell 4).trans rfl
   have c_o_5 : w5'.cell? ⟨w.heap.size, 5, none⟩ = some (.string na) := (HR_o.out.cell 5).trans rfl
   have c_o_6 : w5'.cell? ⟨w.heap.size, 6, none⟩ = some (.int .i64 (ar)) := (HR_o.out.cell 6).trans rfl
   have c_o_7 : w5'.cell? ⟨w.heap.size, 7, none⟩ = some (.int .i64 (nn)) := (HR_o.out.cell 7).trans rfl
   exact bodyPost_ret (v := .tuple #[.agg #[.string sh, .int .i64 (nu), .int .i64 (ki), .int .i64 (ti), .string ke, .string na, .int .i64 (ar), .int .i64 (nn)], .int .i64 0]) (by simp [results, Tryd.results8, go_sem, c_o_0, c_o_1, c_o_2, c_o_3, c_o_4, c_o_5, c_o_6, c_o_7]) rfl ⟨by first | (rw [HN.out]; done) | (rw [HN.out]; rfl), HW.out⟩
  ·have hne : (f != 0) = true := by simpa using h0
   have HN := Lib.hid ((rdE_bad HQ.out (by rw [HF.out]; exact h0)).trans (by rw [HF.out]))
   clear h0
   clear HR_v
   have c_o_0 : w4'.cell? ⟨w.heap.size, 0, none⟩ = some (.string ⟨#[]⟩) := (HR_o.out.cell 0).trans rfl
   have c_o_1 : w4'.cell? ⟨w.heap.size, 1, none⟩ = some (.int .i64 0) := (HR_o.out.cell 1).trans rfl
   have c_o_2 : w4'.cell? ⟨w.heap.size, 2, none⟩ = some (.int .i64 0) := (HR_o.out.cell 2).trans rfl
   have c_o_3 : w4'.cell? ⟨w.heap.size, 3, none⟩ = some (.int .i64 0) := (HR_o.out.cell 3).trans rfl
   have c_o_4 : w4'.cell? ⟨w.heap.size, 4, none⟩ = some (.string ⟨#[]⟩) := (HR_o.out.cell 4).trans rfl
   have c_o_5 : w4'.cell? ⟨w.heap.size, 5, none⟩ = some (.string ⟨#[]⟩) := (HR_o.out.cell 5).trans rfl
   have c_o_6 : w4'.cell? ⟨w.heap.size, 6, none⟩ = some (.int .i64 0) := (HR_o.out.cell 6).trans rfl
   have c_o_7 : w4'.cell? ⟨w.heap.size, 7, none⟩ = some (.int .i64 0) := (HR_o.out.cell 7).trans rfl
   have f_o_0 := HR_o.out.fre 0
   have f_o_1 := HR_o.out.fre 1
   have f_o_2 := HR_o.out.fre 2
   have f_o_3 := HR_o.out.fre 3
   have f_o_4 := HR_o.out.fre 4
   have f_o_5 := HR_o.out.fre 5
   have f_o_6 := HR_o.out.fre 6
   have f_o_7 := HR_o.out.fre 7
   go_wp2
   obtain ⟨w5', hX⟩ : ∃ Z9, Z9 = ((((((((w4'.setCell ⟨w.heap.size, 0, none⟩ (.string ⟨#[]⟩)).setCell ⟨w.heap.size, 1, none⟩ (.int .i64 0)).setCell ⟨w.heap.size, 2, none⟩ (.int .i64 0)).setCell ⟨w.heap.size, 3, none⟩ (.int .i64 0)).setCell ⟨w.heap.size, 4, none⟩ (.string ⟨#[]⟩)).setCell ⟨w.heap.size, 5, none⟩ (.string ⟨#[]⟩)).setCell ⟨w.heap.size, 6, none⟩ (.int .i64 0)).setCell ⟨w.heap.size, 7, none⟩ (.int .i64 0)) := ⟨_, rfl⟩
   rw [← hX]
   have n_o : Hid (RH w5' w.heap.size #[.string ⟨#[]⟩, .int .i64 0, .int .i64 0, .int .i64 0, .string ⟨#[]⟩, .string ⟨#[]⟩, .int .i64 0, .int .i64 0] 23) := by rw [hX]; exact Lib.hid (((((((((HR_o.out).set 0 (.string ⟨#[]⟩)).set 1 (.int .i64 0)).set 2 (.int .i64 0)).set 3 (.int .i64 0)).set 4 (.string ⟨#[]⟩)).set 5 (.string ⟨#[]⟩)).set 6 (.int .i64 0)).set 7 (.int .i64 0))
   have HK_ : ∀ p : Addr, p.block ≠ w.heap.size → w5'.cell? p = w4'.cell? p := fun p hp => by rw [hX]; exact (cs_vr hp).trans ((cs_vr hp).trans ((cs_vr hp).trans ((cs_vr hp).trans ((cs_vr hp).trans ((cs_vr hp).trans ((cs_vr hp).trans (cs_vr hp)))))))
   have nW : Hid (Below w.heap.size w w5') := by rw [hX]; exact Lib.hid (zzw (zzw (zzw (zzw (zzw (zzw (zzw (zzw (HW.out) (by omega)) (by omega)) (by omega)) (by omega)) (by omega)) (by omega)) (by omega)) (by omega))
   clear c_o_0 c_o_1 c_o_2 c_o_3 c_o_4 c_o_5 c_o_6 c_o_7 f_o_0 f_o_1 f_o_2 f_o_3 f_o_4 f_o_5 f_o_6 f_o_7
   clear hX HK_ HW HR_o 
   have HR_o := n_o; clear n_o
   have HW := nW; clear nW
   have c_o_0 : w5'.cell? ⟨w.heap.size, 0, none⟩ = some (.string ⟨#[]⟩) := (HR_o.out.cell 0).trans rfl
   have c_o_1 : w5'.cell? ⟨w.heap.size, 1, none⟩ = some (.int .i64 0) := (HR_o.out.cell 1).trans rfl
   have c_o_2 : w5'.cell? ⟨w.heap.size, 2, none⟩ = some (.int .i64 0) := (HR_o.out.cell 2).trans rfl
   have c_o_3 : w5'.cell? ⟨w.heap.size, 3, none⟩ = some (.int .i64 0) := (HR_o.out.cell 3).trans rfl
   have c_o_4 : w5'.cell? ⟨w.heap.size, 4, none⟩ = some (.string ⟨#[]⟩) := (HR_o.out.cell 4).trans rfl
   have c_o_5 : w5'.cell? ⟨w.heap.size, 5, none⟩ = some (.string ⟨#[]⟩) := (HR_o.out.cell 5).trans rfl
   have c_o_6 : w5'.cell? ⟨w.heap.size, 6, none⟩ = some (.int .i64 0) := (HR_o.out.cell 6).trans rfl
   have c_o_7 : w5'.cell? ⟨w.heap.size, 7, none⟩ = some (.int .i64 0) := (HR_o.out.cell 7).trans rfl
   exact bodyPost_ret (v := .tuple #[.agg #[.string ⟨#[]⟩, .int .i64 0, .int .i64 0, .int .i64 0, .string ⟨#[]⟩, .string ⟨#[]⟩, .int .i64 0, .int .i64 0], .int .i64 f]) (by simp [results, Tryd.results8, go_sem, c_o_0, c_o_1, c_o_2, c_o_3, c_o_4, c_o_5, c_o_6, c_o_7]) rfl ⟨by first | (rw [HN.out]; done) | (rw [HN.out]; rfl), HW.out⟩
end Tx
end Go.Proofs.YtigjkcbpbjefaaaDoor
