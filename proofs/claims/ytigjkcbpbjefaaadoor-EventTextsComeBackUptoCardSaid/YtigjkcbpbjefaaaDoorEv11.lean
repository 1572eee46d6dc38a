/- The walk of EventTextsComeBack. Printed by gen_lawev.py. -/
import Derived.Test.YtigjkcbpbjefaaaDoorEv01
import Derived.Test.YtigjkcbpbjefaaaDoorEv15
import Derived.Test.YtigjkcbpbjefaaaDoorEv00
import Derived.Test.YtigjkcbpbjefaaaDoorEv02
import Derived.Test.YtigjkcbpbjefaaaDoorProg
import Derived.Test.YtigjkcbpbjefaaaDoorShelf
import Derived.Test.YtigjkcbpbjefaaaDoorEv03
import Derived.Test.YtigjkcbpbjefaaaDoorEv04
import Derived.Test.YtigjkcbpbjefaaaDoorEv05
import Derived.Test.YtigjkcbpbjefaaaDoorEv06
import Derived.Test.YtigjkcbpbjefaaaDoorEv10
import Derived.Test.YtigjkcbpbjefaaaDoorEv09
namespace Go.Proofs.YtigjkcbpbjefaaaDoor
open Go.RowKit
namespace Tx
open _root_.Go.Proofs.YtigjkcbpbjefaaaDoor.Nm
open _root_.Go.Proofs.YtigjkcbpbjefaaaDoor.Nt (RH RH.cell RH.box RH.lt RH.new RH.ext RH.fre RH.set RH.other)
theorem ok_right {e : Ev} (h : RightE e) : e.ok := by
 have l0 : ∀ s : ByteArray, s.data.toList.length = s.size := fun s => Array.length_toList
 have h1 := (name_words h.shard).2.2
 rw [l0] at h1
 have hb : (40 : Nat) ≤ maxLen ∧ (100 : Nat) ≤ maxLen := by decide
 rcases h.kind with ⟨_, k1, k2, _⟩ | ⟨_, k1, k2, _⟩ | ⟨_, k1, k2, _⟩
 ·exact ⟨by omega, by rw [k1]; exact zle, by rw [k2]; exact zle⟩
 ·have h2 := (key_seen k1).2.2
  have h3 := (name_words k2).2.2
  rw [l0] at h2 h3
  exact ⟨by omega, by omega, by omega⟩
 ·have h2 := (key_seen k1).2.2
  have h3 := (name_words k2).2.2
  rw [l0] at h2 h3
  exact ⟨by omega, by omega, by omega⟩
theorem shE_is {e : Ev} (h : checkE e = 0) : (shE e).data.toList = showE e := by unfold shE; rw [if_pos h]; rfl
theorem shE_size {e : Ev} (h : checkE e = 0) : (shE e).size ≤ 1048576 := by
 have h1 := show_len (rightE_of h)
 rw [← shE_is h, show (shE e).data.toList.length = (shE e).size from Array.length_toList] at h1
 omega
theorem rd_show {e : Ev} (h : checkE e = 0) : rdE (shE e).data.toList = (e, 0) := by
 rw [shE_is h]; exact rdE_yes (read_show (rightE_of h)) h
theorem rd_zero {l : List UInt8} (h : (rdE l).2 ≠ 0) : (rdE l).1 = zEv := by
 cases ho : readO l with
 | none => rw [rdE_none ho]
 | some x =>
  by_cases hc : checkE x = 0
  ·rw [rdE_yes ho hc] at h; exact absurd rfl h
  ·rw [rdE_bad ho hc]
theorem rd_back {s : ByteArray} (h : (rdE s.data.toList).2 = 0) : checkE (rdE s.data.toList).1 = 0 ∧ shE (rdE s.data.toList).1 = s := by
 cases ho : readO s.data.toList with
 | none => rw [rdE_none ho] at h; exact absurd h (by decide)
 | some x =>
  by_cases hc : checkE x = 0
  ·rw [rdE_yes ho hc]
   refine ⟨hc, bytes_ext ?_⟩
   rw [shE_is hc]; exact show_read ho
  ·rw [rdE_bad ho hc] at h; exact absurd h hc
set_option maxRecDepth 100000 in
set_option maxHeartbeats 16000000 in
theorem lawEtb_at (e : Ev) (he : e.ok) (s : ByteArray) (hs : s.size ≤ 1048576) (w : World) (hr : Er w) (ht : Tb w) (hm : Ml w) : Calls Tryd.prog 3 #[.agg (evC e), .string s] w fun e w' => e = .returned (.bool true) ∧ Below w.heap.size w w' := by
 have HS0 := Lib.hid hs
 have HML := Lib.hid hm
 have HT0 := Lib.hid ht
 have HE0 := Lib.hid hr
 have HOK := Lib.hid he
 clear hs hm ht hr he
 obtain ⟨fe, hf⟩ : ∃ z, checkE e = z := ⟨_, rfl⟩
 have HF := Lib.hid hf
 clear hf
 obtain ⟨tx, htx⟩ : ∃ z, shE e = z := ⟨_, rfl⟩
 have HTX := Lib.hid htx
 clear htx
 go_enter Tryd.func3, Tryd.ntmps3
 go_upto_region 1 with (fail)
 refine wp_vr1 fun w1' hbz hR0 => ?_
 have HR_v : Hid (RH w1' w.heap.size #[.string e.shard, .int .i64 (e.number), .int .i64 (e.kind), .int .i64 (e.time), .string e.key, .string e.name, .int .i64 (e.arm), .int .i64 (e.n)] 23) := Lib.hid hR0
 have HW := Lib.hid hbz
 clear hbz hR0
 have c_v_0 : w1'.cell? ⟨w.heap.size, 0, none⟩ = some (.string e.shard) := (HR_v.out.cell 0).trans rfl
 have c_v_1 : w1'.cell? ⟨w.heap.size, 1, none⟩ = some (.int .i64 (e.number)) := (HR_v.out.cell 1).trans rfl
 have c_v_2 : w1'.cell? ⟨w.heap.size, 2, none⟩ = some (.int .i64 (e.kind)) := (HR_v.out.cell 2).trans rfl
 have c_v_3 : w1'.cell? ⟨w.heap.size, 3, none⟩ = some (.int .i64 (e.time)) := (HR_v.out.cell 3).trans rfl
 have c_v_4 : w1'.cell? ⟨w.heap.size, 4, none⟩ = some (.string e.key) := (HR_v.out.cell 4).trans rfl
 have c_v_5 : w1'.cell? ⟨w.heap.size, 5, none⟩ = some (.string e.name) := (HR_v.out.cell 5).trans rfl
 have c_v_6 : w1'.cell? ⟨w.heap.size, 6, none⟩ = some (.int .i64 (e.arm)) := (HR_v.out.cell 6).trans rfl
 have c_v_7 : w1'.cell? ⟨w.heap.size, 7, none⟩ = some (.int .i64 (e.n)) := (HR_v.out.cell 7).trans rfl
 go_wp2_with fail
 refine (evShow_at e HOK.out w1' (HT0.out.ext HW.out)).mono ?_
 rintro e w2' ⟨rfl, hbz⟩
 rw [HF.out, HTX.out]
 replace HR_v := Lib.hid (HR_v.out.ext hbz)
 replace HW := Lib.hid (ext_trans HW.out hbz)
 clear c_v_0 c_v_1 c_v_2 c_v_3 c_v_4 c_v_5 c_v_6 c_v_7
 clear hbz
 by_cases h0 : fe = 0
 ·subst h0
  have HTZ : Hid (tx.size ≤ 1048576) := Lib.hid (by rw [← HTX.out]; exact shE_size HF.out)
  have HRS : Hid (rdE tx.data.toList = (e, 0)) := Lib.hid (by rw [← HTX.out]; exact rd_show HF.out)
  go_wp2_with fail
  refine (evRead_at tx HTZ.out w2' (HE0.out.ext HW.out) (HT0.out.ext HW.out) (HML.out.ext HW.out)).mono ?_
  rintro e w3' ⟨rfl, hbz⟩
  rw [HRS.out]
  replace HR_v := Lib.hid (HR_v.out.ext hbz)
  replace HW := Lib.hid (ext_trans HW.out hbz)
  clear hbz
  go_upto_region 4 with (fail)
  refine wp_vr1 fun w4' hbz hR0 => ?_
  have lt_v_p : w.heap.size < w3'.heap.size := HR_v.out.lt
  have le_p : w.heap.size ≤ w3'.heap.size := HW.out.size
  replace HR_v := Lib.hid (HR_v.out.ext hbz)
  replace HW := Lib.hid (ext_trans HW.out hbz)
  clear hbz
  have HR_p : Hid (RH w4' w3'.heap.size #[.string e.shard, .int .i64 (e.number), .int .i64 (e.kind), .int .i64 (e.time), .string e.key, .string e.name, .int .i64 (e.arm), .int .i64 (e.n)] 23) := Lib.hid hR0
  clear hR0
  generalize w3'.heap.size = b_p at *
  have c_v_0 : w4'.cell? ⟨w.heap.size, 0, none⟩ = some (.string e.shard) := (HR_v.out.cell 0).trans rfl
  have c_v_1 : w4'.cell? ⟨w.heap.size, 1, none⟩ = some (.int .i64 (e.number)) := (HR_v.out.cell 1).trans rfl
  have c_v_2 : w4'.cell? ⟨w.heap.size, 2, none⟩ = some (.int .i64 (e.kind)) := (HR_v.out.cell 2).trans rfl
  have c_v_3 : w4'.cell? ⟨w.heap.size, 3, none⟩ = some (.int .i64 (e.time)) := (HR_v.out.cell 3).trans rfl
  have c_v_4 : w4'.cell? ⟨w.heap.size, 4, none⟩ = some (.string e.key) := (HR_v.out.cell 4).trans rfl
  have c_v_5 : w4'.cell? ⟨w.heap.size, 5, none⟩ = some (.string e.name) := (HR_v.out.cell 5).trans rfl
  have c_v_6 : w4'.cell? ⟨w.heap.size, 6, none⟩ = some (.int .i64 (e.arm)) := (HR_v.out.cell 6).trans rfl
  have c_v_7 : w4'.cell? ⟨w.heap.size, 7, none⟩ = some (.int .i64 (e.n)) := (HR_v.out.cell 7).trans rfl
  have c_p_0 : w4'.cell? ⟨b_p, 0, none⟩ = some (.string e.shard) := (HR_p.out.cell 0).trans rfl
  have c_p_1 : w4'.cell? ⟨b_p, 1, none⟩ = some (.int .i64 (e.number)) := (HR_p.out.cell 1).trans rfl
  have c_p_2 : w4'.cell? ⟨b_p, 2, none⟩ = some (.int .i64 (e.kind)) := (HR_p.out.cell 2).trans rfl
  have c_p_3 : w4'.cell? ⟨b_p, 3, none⟩ = some (.int .i64 (e.time)) := (HR_p.out.cell 3).trans rfl
  have c_p_4 : w4'.cell? ⟨b_p, 4, none⟩ = some (.string e.key) := (HR_p.out.cell 4).trans rfl
  have c_p_5 : w4'.cell? ⟨b_p, 5, none⟩ = some (.string e.name) := (HR_p.out.cell 5).trans rfl
  have c_p_6 : w4'.cell? ⟨b_p, 6, none⟩ = some (.int .i64 (e.arm)) := (HR_p.out.cell 6).trans rfl
  have c_p_7 : w4'.cell? ⟨b_p, 7, none⟩ = some (.int .i64 (e.n)) := (HR_p.out.cell 7).trans rfl
  have hgd := fun op a b w => guard_ev op a b e e w
  have hnq := neq_ev e e
  rw [decide_eq_true rfl] at hnq
  dsimp only [evC] at hgd hnq
  go_upto_region 6 with (fail)
  clear hgd hnq
  clear c_v_0 c_v_1 c_v_2 c_v_3 c_v_4 c_v_5 c_v_6 c_v_7 c_p_0 c_p_1 c_p_2 c_p_3 c_p_4 c_p_5 c_p_6 c_p_7
  clear HR_p
  go_wp2_with fail
  refine (evRead_at s HS0.out w4' (HE0.out.ext HW.out) (HT0.out.ext HW.out) (HML.out.ext HW.out)).mono ?_
  rintro e w5' ⟨rfl, hbz⟩
  obtain ⟨x, hx⟩ : ∃ z, (rdE s.data.toList).1 = z := ⟨_, rfl⟩
  obtain ⟨f2, hf2⟩ : ∃ z, (rdE s.data.toList).2 = z := ⟨_, rfl⟩
  rw [hx, hf2]
  have HX := Lib.hid hx
  have HF2 := Lib.hid hf2
  clear hx hf2
  replace HR_v := Lib.hid (HR_v.out.ext hbz)
  replace HW := Lib.hid (ext_trans HW.out hbz)
  clear hbz
  go_upto_region 7 with (fail)
  refine wp_vr1 fun w6' hbz hR0 => ?_
  have lt_v_q : w.heap.size < w5'.heap.size := HR_v.out.lt
  have le_q : w.heap.size ≤ w5'.heap.size := HW.out.size
  replace HR_v := Lib.hid (HR_v.out.ext hbz)
  replace HW := Lib.hid (ext_trans HW.out hbz)
  clear hbz
  have HR_q : Hid (RH w6' w5'.heap.size #[.string x.shard, .int .i64 (x.number), .int .i64 (x.kind), .int .i64 (x.time), .string x.key, .string x.name, .int .i64 (x.arm), .int .i64 (x.n)] 23) := Lib.hid hR0
  clear hR0
  generalize w5'.heap.size = b_q at *
  by_cases h2 : f2 = 0
  ·subst h2
   have HBK := Lib.hid (rd_back HF2.out)
   rw [HX.out] at HBK
   have HXO := Lib.hid (ok_right (rightE_of HBK.out.1))
   have c_q_0 : w6'.cell? ⟨b_q, 0, none⟩ = some (.string x.shard) := (HR_q.out.cell 0).trans rfl
   have c_q_1 : w6'.cell? ⟨b_q, 1, none⟩ = some (.int .i64 (x.number)) := (HR_q.out.cell 1).trans rfl
   have c_q_2 : w6'.cell? ⟨b_q, 2, none⟩ = some (.int .i64 (x.kind)) := (HR_q.out.cell 2).trans rfl
   have c_q_3 : w6'.cell? ⟨b_q, 3, none⟩ = some (.int .i64 (x.time)) := (HR_q.out.cell 3).trans rfl
   have c_q_4 : w6'.cell? ⟨b_q, 4, none⟩ = some (.string x.key) := (HR_q.out.cell 4).trans rfl
   have c_q_5 : w6'.cell? ⟨b_q, 5, none⟩ = some (.string x.name) := (HR_q.out.cell 5).trans rfl
   have c_q_6 : w6'.cell? ⟨b_q, 6, none⟩ = some (.int .i64 (x.arm)) := (HR_q.out.cell 6).trans rfl
   have c_q_7 : w6'.cell? ⟨b_q, 7, none⟩ = some (.int .i64 (x.n)) := (HR_q.out.cell 7).trans rfl
   go_wp2_with fail
   refine (evShow_at x HXO.out w6' (HT0.out.ext HW.out)).mono ?_
   rintro e w7' ⟨rfl, hbz⟩
   rw [HBK.out.1, HBK.out.2]
   replace HR_v := Lib.hid (HR_v.out.ext hbz)
   replace HR_q := Lib.hid (HR_q.out.ext hbz)
   replace HW := Lib.hid (ext_trans HW.out hbz)
   clear c_q_0 c_q_1 c_q_2 c_q_3 c_q_4 c_q_5 c_q_6 c_q_7
   clear hbz
   go_wp2
   go_ret
   exact ⟨by simp, HW.out⟩
  ·have hne : (f2 != 0) = true := by simpa using h2
   obtain rfl : x = zEv := HX.out.symm.trans (rd_zero (by rw [HF2.out]; exact h2))
   have hgd := fun op a b w => guard_ev op a b zEv zEv w
   have heq := eql_ev zEv zEv
   rw [decide_eq_true rfl] at heq
   clear h2
   have HR_q' : Hid (RH w6' b_q #[.string ⟨#[]⟩, .int .i64 0, .int .i64 0, .int .i64 0, .string ⟨#[]⟩, .string ⟨#[]⟩, .int .i64 0, .int .i64 0] 23) := HR_q
   replace HR_q := HR_q'
   clear HR_q'
   have c_q_0 : w6'.cell? ⟨b_q, 0, none⟩ = some (.string ⟨#[]⟩) := (HR_q.out.cell 0).trans rfl
   have c_q_1 : w6'.cell? ⟨b_q, 1, none⟩ = some (.int .i64 0) := (HR_q.out.cell 1).trans rfl
   have c_q_2 : w6'.cell? ⟨b_q, 2, none⟩ = some (.int .i64 0) := (HR_q.out.cell 2).trans rfl
   have c_q_3 : w6'.cell? ⟨b_q, 3, none⟩ = some (.int .i64 0) := (HR_q.out.cell 3).trans rfl
   have c_q_4 : w6'.cell? ⟨b_q, 4, none⟩ = some (.string ⟨#[]⟩) := (HR_q.out.cell 4).trans rfl
   have c_q_5 : w6'.cell? ⟨b_q, 5, none⟩ = some (.string ⟨#[]⟩) := (HR_q.out.cell 5).trans rfl
   have c_q_6 : w6'.cell? ⟨b_q, 6, none⟩ = some (.int .i64 0) := (HR_q.out.cell 6).trans rfl
   have c_q_7 : w6'.cell? ⟨b_q, 7, none⟩ = some (.int .i64 0) := (HR_q.out.cell 7).trans rfl
   dsimp only [evC, zEv] at hgd heq
   go_wp2
   go_ret
   exact ⟨rfl, HW.out⟩
 ·have hne : (fe == 0) = false := beq_eq_false_iff_ne.2 h0
  clear h0
  go_wp2_with fail
  refine (evRead_at s HS0.out w2' (HE0.out.ext HW.out) (HT0.out.ext HW.out) (HML.out.ext HW.out)).mono ?_
  rintro e w3' ⟨rfl, hbz⟩
  obtain ⟨x, hx⟩ : ∃ z, (rdE s.data.toList).1 = z := ⟨_, rfl⟩
  obtain ⟨f2, hf2⟩ : ∃ z, (rdE s.data.toList).2 = z := ⟨_, rfl⟩
  rw [hx, hf2]
  have HX := Lib.hid hx
  have HF2 := Lib.hid hf2
  clear hx hf2
  replace HR_v := Lib.hid (HR_v.out.ext hbz)
  replace HW := Lib.hid (ext_trans HW.out hbz)
  clear hbz
  go_upto_region 7 with (fail)
  refine wp_vr1 fun w4' hbz hR0 => ?_
  have lt_v_q : w.heap.size < w3'.heap.size := HR_v.out.lt
  have le_q : w.heap.size ≤ w3'.heap.size := HW.out.size
  replace HR_v := Lib.hid (HR_v.out.ext hbz)
  replace HW := Lib.hid (ext_trans HW.out hbz)
  clear hbz
  have HR_q : Hid (RH w4' w3'.heap.size #[.string x.shard, .int .i64 (x.number), .int .i64 (x.kind), .int .i64 (x.time), .string x.key, .string x.name, .int .i64 (x.arm), .int .i64 (x.n)] 23) := Lib.hid hR0
  clear hR0
  generalize w3'.heap.size = b_q at *
  by_cases h2 : f2 = 0
  ·subst h2
   have HBK := Lib.hid (rd_back HF2.out)
   rw [HX.out] at HBK
   have HXO := Lib.hid (ok_right (rightE_of HBK.out.1))
   have c_q_0 : w4'.cell? ⟨b_q, 0, none⟩ = some (.string x.shard) := (HR_q.out.cell 0).trans rfl
   have c_q_1 : w4'.cell? ⟨b_q, 1, none⟩ = some (.int .i64 (x.number)) := (HR_q.out.cell 1).trans rfl
   have c_q_2 : w4'.cell? ⟨b_q, 2, none⟩ = some (.int .i64 (x.kind)) := (HR_q.out.cell 2).trans rfl
   have c_q_3 : w4'.cell? ⟨b_q, 3, none⟩ = some (.int .i64 (x.time)) := (HR_q.out.cell 3).trans rfl
   have c_q_4 : w4'.cell? ⟨b_q, 4, none⟩ = some (.string x.key) := (HR_q.out.cell 4).trans rfl
   have c_q_5 : w4'.cell? ⟨b_q, 5, none⟩ = some (.string x.name) := (HR_q.out.cell 5).trans rfl
   have c_q_6 : w4'.cell? ⟨b_q, 6, none⟩ = some (.int .i64 (x.arm)) := (HR_q.out.cell 6).trans rfl
   have c_q_7 : w4'.cell? ⟨b_q, 7, none⟩ = some (.int .i64 (x.n)) := (HR_q.out.cell 7).trans rfl
   go_wp2_with fail
   refine (evShow_at x HXO.out w4' (HT0.out.ext HW.out)).mono ?_
   rintro e w5' ⟨rfl, hbz⟩
   rw [HBK.out.1, HBK.out.2]
   replace HR_v := Lib.hid (HR_v.out.ext hbz)
   replace HR_q := Lib.hid (HR_q.out.ext hbz)
   replace HW := Lib.hid (ext_trans HW.out hbz)
   clear c_q_0 c_q_1 c_q_2 c_q_3 c_q_4 c_q_5 c_q_6 c_q_7
   clear hbz
   go_wp2
   go_ret
   exact ⟨by simp, HW.out⟩
  ·have hne : (f2 != 0) = true := by simpa using h2
   obtain rfl : x = zEv := HX.out.symm.trans (rd_zero (by rw [HF2.out]; exact h2))
   have hgd := fun op a b w => guard_ev op a b zEv zEv w
   have heq := eql_ev zEv zEv
   rw [decide_eq_true rfl] at heq
   clear h2
   have HR_q' : Hid (RH w4' b_q #[.string ⟨#[]⟩, .int .i64 0, .int .i64 0, .int .i64 0, .string ⟨#[]⟩, .string ⟨#[]⟩, .int .i64 0, .int .i64 0] 23) := HR_q
   replace HR_q := HR_q'
   clear HR_q'
   have c_q_0 : w4'.cell? ⟨b_q, 0, none⟩ = some (.string ⟨#[]⟩) := (HR_q.out.cell 0).trans rfl
   have c_q_1 : w4'.cell? ⟨b_q, 1, none⟩ = some (.int .i64 0) := (HR_q.out.cell 1).trans rfl
   have c_q_2 : w4'.cell? ⟨b_q, 2, none⟩ = some (.int .i64 0) := (HR_q.out.cell 2).trans rfl
   have c_q_3 : w4'.cell? ⟨b_q, 3, none⟩ = some (.int .i64 0) := (HR_q.out.cell 3).trans rfl
   have c_q_4 : w4'.cell? ⟨b_q, 4, none⟩ = some (.string ⟨#[]⟩) := (HR_q.out.cell 4).trans rfl
   have c_q_5 : w4'.cell? ⟨b_q, 5, none⟩ = some (.string ⟨#[]⟩) := (HR_q.out.cell 5).trans rfl
   have c_q_6 : w4'.cell? ⟨b_q, 6, none⟩ = some (.int .i64 0) := (HR_q.out.cell 6).trans rfl
   have c_q_7 : w4'.cell? ⟨b_q, 7, none⟩ = some (.int .i64 0) := (HR_q.out.cell 7).trans rfl
   dsimp only [evC, zEv] at hgd heq
   go_wp2
   go_ret
   exact ⟨rfl, HW.out⟩
end Tx
end Go.Proofs.YtigjkcbpbjefaaaDoor
