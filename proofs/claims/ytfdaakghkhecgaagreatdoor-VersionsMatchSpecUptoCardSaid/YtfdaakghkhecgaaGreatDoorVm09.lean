/- readVersion of the reference. Printed by gen_vread.py. -/
import Derived.Test.YtfdaakghkhecgaaGreatDoorVm07
import Derived.Test.YtfdaakghkhecgaaGreatDoorVm04
import Derived.Test.YtfdaakghkhecgaaGreatDoorVm05
namespace Go.Proofs.YtfdaakghkhecgaaGreatDoor
open Go.RowKit
namespace Tx
open _root_.Go.Proofs.YtfdaakghkhecgaaGreatDoor.Nm
open _root_.Go.Proofs.YtfdaakghkhecgaaGreatDoor.Nt (RH RH.cell RH.box RH.lt RH.new RH.ext RH.fre RH.set RH.other)
set_option maxRecDepth 100000 in
set_option maxHeartbeats 16000000 in
theorem readVersion_at (s : ByteArray) (hs : s.size ≤ 1048576) (w : World) (hm : Ml w) : Calls Tryz.prog 18 #[.string s] w (RvPost s.data.toList w) := by
 have HS0 := Lib.hid hs
 have HML := Lib.hid hm
 obtain ⟨hd, tl, hc⟩ : ∃ hd tl, cut1 45 s.data.toList = (hd, tl) := ⟨_, _, rfl⟩
 have HC := Lib.hid hc
 have hln := cut1_len 45 s.data.toList
 rw [hc, show s.data.toList.length = s.size from Array.length_toList] at hln
 have HL := Lib.hid hln
 clear hs hm hln
 go_enter Tryz.func18, Tryz.ntmps18
 go_upto_region 1 with (fail)
 refine wp_vr1 fun w1' hbz hR0 => ?_
 have HR_o : Hid (RH w1' w.heap.size #[.int .i64 0, .int .i64 0, .int .i64 0, .slice none 0 0] 24) := Lib.hid hR0
 have HW := Lib.hid hbz
 clear hbz hR0
 go_wp2_with fail
 refine (cut_at s 45 (by have := HS0.out; omega) w1' (HML.out.ext HW.out)).mono ?_
 rintro e w2' ⟨rfl, hbz⟩
 rw [hc]
 clear hc
 replace HR_o := Lib.hid (HR_o.out.ext hbz)
 replace HW := Lib.hid (ext_trans HW.out hbz)
 clear hbz
 go_upto_region 3 with (fail)
 refine wp_vr1 fun w3' hbz hR0 => ?_
 have lt_o_n : w.heap.size < w2'.heap.size := HR_o.out.lt
 have le_n : w.heap.size ≤ w2'.heap.size := HW.out.size
 replace HR_o := Lib.hid (HR_o.out.ext hbz)
 replace HW := Lib.hid (ext_trans HW.out hbz)
 clear hbz
 have HR_n : Hid (RH w3' w2'.heap.size #[.int .i64 0, .int .i64 0, .int .i64 0] 38) := Lib.hid hR0
 clear hR0
 generalize w2'.heap.size = b_n at *
 go_wp2_with fail
 refine (split_at (stB hd) 46 (by rw [stB_size]; have := HS0.out; have := HL.out.1; omega) w3' (HML.out.ext HW.out)).mono ?_
 rintro e w4' ⟨ap, cp, rfl, hsl, hbz⟩
 rw [stB_list] at hsl ⊢
 obtain ⟨P, hP⟩ : ∃ P, (cutL 46 hd).map stB = P := ⟨_, rfl⟩
 rw [hP] at hsl ⊢
 replace HR_o := Lib.hid (HR_o.out.ext hbz)
 replace HR_n := Lib.hid (HR_n.out.ext hbz)
 replace HW := Lib.hid (ext_trans HW.out hbz)
 clear hbz
 have HSP : Hid (SlS w4' ap P cp) := Lib.hid hsl
 clear hsl
 have HPZ : Hid (∀ u ∈ P, u.size ≤ maxLen) := Lib.hid (by rw [← hP]; exact fun u hu => Nat.le_trans (pieces_size (Nat.le_refl _) u hu) (by have := HL.out.1; have := HS0.out; unfold maxLen; omega))
 have HPL : Hid (P.map (·.data.toList) = cutL 46 hd) := Lib.hid (by rw [← hP, List.map_map]; exact List.map_id _)
 have HPN : Hid (P.length = (cutL 46 hd).length) := Lib.hid (by rw [← hP, List.length_map])
 have hp63 := Sl.len63 HSP.out
 clear hP
 obtain ⟨c_o_0, c_o_1, c_o_2, c_o_3⟩ := zs4 HR_o.out
 have f_o_0 := HR_o.out.fre 0
 have f_o_1 := HR_o.out.fre 1
 have f_o_2 := HR_o.out.fre 2
 have f_o_3 := HR_o.out.fre 3
 by_cases h3 : 3 < P.length
 ·have HN := Lib.hid (rvO_long HC.out (by rw [← HPN.out]; exact h3))
  have h3' : (3 : Int) < (P.length : Int) := by omega
  clear h3
  go_wp2
  obtain ⟨w5', hX⟩ : ∃ Z9, Z9 = ((((w4'.setCell ⟨w.heap.size, 0, none⟩ (.int .i64 0)).setCell ⟨w.heap.size, 1, none⟩ (.int .i64 0)).setCell ⟨w.heap.size, 2, none⟩ (.int .i64 0)).setCell ⟨w.heap.size, 3, none⟩ (.slice none 0 0)) := ⟨_, rfl⟩
  rw [← hX]
  have n_o : Hid (RH w5' w.heap.size #[.int .i64 0, .int .i64 0, .int .i64 0, .slice none 0 0] 24) := by rw [hX]; exact Lib.hid (((((HR_o.out).set 0 (.int .i64 0)).set 1 (.int .i64 0)).set 2 (.int .i64 0)).set 3 (.slice none 0 0))
  have n_n : Hid (RH w5' b_n #[.int .i64 0, .int .i64 0, .int .i64 0] 38) := by rw [hX]; exact Lib.hid (zzo (zzo (zzo (zzo (HR_n.out) (by omega)) (by omega)) (by omega)) (by omega))
  have HK_ : ∀ p : Addr, p.block ≠ w.heap.size → w5'.cell? p = w4'.cell? p := fun p hp => by rw [hX]; exact (cs_vr hp).trans ((cs_vr hp).trans ((cs_vr hp).trans (cs_vr hp)))
  have n_HSP : Hid (SlS w5' ap P cp) := Lib.hid (HSP.out.far HR_o.out.box (noS_all (by simp [isS])) HK_)
  have nW : Hid (Below w.heap.size w w5') := by rw [hX]; exact Lib.hid (zzw (zzw (zzw (zzw (HW.out) (by omega)) (by omega)) (by omega)) (by omega))
  clear c_o_0 c_o_1 c_o_2 c_o_3 f_o_0 f_o_1 f_o_2 f_o_3
  clear hX HK_ HW HR_o HR_n HSP
  have HR_o := n_o; clear n_o
  have HR_n := n_n; clear n_n
  have HSP := n_HSP; clear n_HSP
  have HW := nW; clear nW
  obtain ⟨c_o_0, c_o_1, c_o_2, c_o_3⟩ := zs4 HR_o.out
  exact bodyPost_ret (v := .tuple #[.agg #[.int .i64 0, .int .i64 0, .int .i64 0, .slice none 0 0], .int .i64 (0), .bool false]) (by simp [results, Tryz.results18, go_sem, c_o_0, c_o_1, c_o_2, c_o_3]) rfl ⟨_, [.int .i64 0, .int .i64 0, .int .i64 0, .slice none 0 0], _, _, rfl, rep_nil, .inr ⟨HN.out, rfl⟩, HW.out⟩
 ·clear c_o_0 c_o_1 c_o_2 c_o_3 f_o_0 f_o_1 f_o_2 f_o_3
  have h3' : ¬ (3 : Int) < (P.length : Int) := by omega
  go_wp2
  go_loopw [3, 9, 31] (fun m o i wr => ∃ (k : Nat) (ns : List Nat) (ob : Bool), k ≤ P.length ∧ m = .int .i64 (ns.length : Int) ∧ o = .bool ob ∧ i = .int .i64 (k : Int) ∧ Hid (rvN (cutL 46 hd) false = (rvN ((P.drop k).map (·.data.toList)) ob).map (ns ++ ·)) ∧ Hid (ob = false → ns.length = k) ∧ Hid (ns.length ≤ k) ∧ (RH wr w.heap.size #[.int .i64 0, .int .i64 0, .int .i64 0, .slice none 0 0] 24) ∧ (RH wr b_n #[.int .i64 (((ns.getD 0 0 : Nat) : Int)), .int .i64 (((ns.getD 1 0 : Nat) : Int)), .int .i64 (((ns.getD 2 0 : Nat) : Int))] 38) ∧ (SlS wr ap P cp) ∧ (Below w.heap.size w wr)) (fun _ _ i _ => P.length - (intOf i).toNat)
  case atStart => exact ⟨0, [], false, by omega, rfl, rfl, rfl, Lib.hid (by rw [List.drop_zero, HPL.out]; cases rvN (cutL 46 hd) false <;> rfl), Lib.hid (fun _ => rfl), Lib.hid (Nat.le_refl _), HR_o.out, HR_n.out, HSP.out, HW.out⟩
  case round =>
   clear HR_o HR_n HSP HW
   obtain ⟨k, ns, ob, hk, rfl, rfl, rfl, HR, HO, HNK, q_HR_o, q_HR_n, q_HSP, q_HW⟩ := hrel
   have HR_o := Lib.hid q_HR_o
   have HR_n := Lib.hid q_HR_n
   have HSP := Lib.hid q_HSP
   have HW := Lib.hid q_HW
   clear q_HR_o q_HR_n q_HSP q_HW
   generalize hX : wr = X at *
   clear hX
   have hnk := HNK.out
   by_cases hlt : k < P.length
   ·obtain ⟨pb, po, rfl, e0⟩ := HSP.out.at hlt
    have husz : P[k].size ≤ maxLen := HPZ.out _ (List.getElem_mem hlt)
    have HDR : Hid ((P.drop k).map (·.data.toList) = P[k].data.toList :: (P.drop (k + 1)).map (·.data.toList)) := Lib.hid (by rw [List.drop_eq_getElem_cons hlt]; rfl)
    generalize P[k] = u at *
    have hk0 : (0 : Int) ≤ (k : Int) := Int.natCast_nonneg _
    have hk1 : (k : Int) < (P.length : Int) := by omega
    have HUX : Hid (isX u.data.toList = (decide (u.toList = [120]) || decide (u.toList = [88]) || decide (u.toList = [42]))) := Lib.hid (by rw [ByteArray.toList_eq]; rfl)
    by_cases x1 : u.toList = [120]
    ·have q1 : (u.toList == [120]) = true := beq_iff_eq.2 x1
     have HXT : Hid (isX u.data.toList = true) := Lib.hid (by rw [HUX.out]; simp [*])
     clear husz HUX
     go_wp2
     go_roundw
     case rel => exact ⟨k + 1, ns, true, by omega, rfl, rfl, by go_num, Lib.hid (by rw [HR.out, HDR.out, rvN_x HXT.out]), Lib.hid (fun h => by cases h), Lib.hid (by omega), HR_o.out, HR_n.out, HSP.out, HW.out⟩
     case measure => simp [intOf]; omega
    ·by_cases x2 : u.toList = [88]
     ·have q1 : (u.toList == [120]) = false := beq_eq_false_iff_ne.2 x1
      have q2 : (u.toList == [88]) = true := beq_iff_eq.2 x2
      have HXT : Hid (isX u.data.toList = true) := Lib.hid (by rw [HUX.out]; simp [*])
      clear husz HUX
      go_wp2
      go_roundw
      case rel => exact ⟨k + 1, ns, true, by omega, rfl, rfl, by go_num, Lib.hid (by rw [HR.out, HDR.out, rvN_x HXT.out]), Lib.hid (fun h => by cases h), Lib.hid (by omega), HR_o.out, HR_n.out, HSP.out, HW.out⟩
      case measure => simp [intOf]; omega
     ·by_cases x3 : u.toList = [42]
      ·have q1 : (u.toList == [120]) = false := beq_eq_false_iff_ne.2 x1
       have q2 : (u.toList == [88]) = false := beq_eq_false_iff_ne.2 x2
       have q3 : (u.toList == [42]) = true := beq_iff_eq.2 x3
       have HXT : Hid (isX u.data.toList = true) := Lib.hid (by rw [HUX.out]; simp [*])
       clear husz HUX
       go_wp2
       go_roundw
       case rel => exact ⟨k + 1, ns, true, by omega, rfl, rfl, by go_num, Lib.hid (by rw [HR.out, HDR.out, rvN_x HXT.out]), Lib.hid (fun h => by cases h), Lib.hid (by omega), HR_o.out, HR_n.out, HSP.out, HW.out⟩
       case measure => simp [intOf]; omega
      ·have q1 : (u.toList == [120]) = false := beq_eq_false_iff_ne.2 x1
       have q2 : (u.toList == [88]) = false := beq_eq_false_iff_ne.2 x2
       have q3 : (u.toList == [42]) = false := beq_eq_false_iff_ne.2 x3
       have HXF : Hid (isX u.data.toList = false) := Lib.hid (by rw [HUX.out]; simp [*])
       clear HUX
       go_wp2_with fail
       refine (refNum_at u husz X).mono ?_
       rintro e w5' ⟨rfl, hbz⟩
       replace HR_o := Lib.hid (HR_o.out.ext hbz)
       replace HR_n := Lib.hid (HR_n.out.ext hbz)
       replace HSP := Lib.hid (HSP.out.ext hbz)
       replace HW := Lib.hid (ext_trans HW.out hbz)
       clear hbz
       clear husz e0
       cases hv : vnO u.data.toList with
       | none =>
        have HV := Lib.hid hv
        clear hv
        -- the number
        simp only [Option.getD_none, Option.isSome_none]
        cases ob
        ·have HN := Lib.hid (rvO_bad HC.out (by rw [HR.out, HDR.out, rvN_bad HXF.out HV.out]; rfl))
         obtain ⟨c_o_0, c_o_1, c_o_2, c_o_3⟩ := zs4 HR_o.out
         have f_o_0 := HR_o.out.fre 0
         have f_o_1 := HR_o.out.fre 1
         have f_o_2 := HR_o.out.fre 2
         have f_o_3 := HR_o.out.fre 3
         go_wp2
         obtain ⟨w6', hX⟩ : ∃ Z9, Z9 = ((((w5'.setCell ⟨w.heap.size, 0, none⟩ (.int .i64 0)).setCell ⟨w.heap.size, 1, none⟩ (.int .i64 0)).setCell ⟨w.heap.size, 2, none⟩ (.int .i64 0)).setCell ⟨w.heap.size, 3, none⟩ (.slice none 0 0)) := ⟨_, rfl⟩
         rw [← hX]
         have n_o : Hid (RH w6' w.heap.size #[.int .i64 0, .int .i64 0, .int .i64 0, .slice none 0 0] 24) := by rw [hX]; exact Lib.hid (((((HR_o.out).set 0 (.int .i64 0)).set 1 (.int .i64 0)).set 2 (.int .i64 0)).set 3 (.slice none 0 0))
         have n_n : Hid (RH w6' b_n #[.int .i64 (((ns.getD 0 0 : Nat) : Int)), .int .i64 (((ns.getD 1 0 : Nat) : Int)), .int .i64 (((ns.getD 2 0 : Nat) : Int))] 38) := by rw [hX]; exact Lib.hid (zzo (zzo (zzo (zzo (HR_n.out) (by omega)) (by omega)) (by omega)) (by omega))
         have HK_ : ∀ p : Addr, p.block ≠ w.heap.size → w6'.cell? p = w5'.cell? p := fun p hp => by rw [hX]; exact (cs_vr hp).trans ((cs_vr hp).trans ((cs_vr hp).trans (cs_vr hp)))
         have n_HSP : Hid (SlS w6' (some ⟨pb, po, none⟩) P cp) := Lib.hid (HSP.out.far HR_o.out.box (noS_all (by simp [isS])) HK_)
         have nW : Hid (Below w.heap.size w w6') := by rw [hX]; exact Lib.hid (zzw (zzw (zzw (zzw (HW.out) (by omega)) (by omega)) (by omega)) (by omega))
         clear c_o_0 c_o_1 c_o_2 c_o_3 f_o_0 f_o_1 f_o_2 f_o_3
         clear hX HK_ HW HR_o HR_n HSP
         have HR_o := n_o; clear n_o
         have HR_n := n_n; clear n_n
         have HSP := n_HSP; clear n_HSP
         have HW := nW; clear nW
         obtain ⟨c_o_0, c_o_1, c_o_2, c_o_3⟩ := zs4 HR_o.out
         exact bodyPost_ret (v := .tuple #[.agg #[.int .i64 0, .int .i64 0, .int .i64 0, .slice none 0 0], .int .i64 (0), .bool false]) (by simp [results, Tryz.results18, go_sem, c_o_0, c_o_1, c_o_2, c_o_3]) rfl ⟨_, [.int .i64 0, .int .i64 0, .int .i64 0, .slice none 0 0], _, _, rfl, rep_nil, .inr ⟨HN.out, rfl⟩, HW.out⟩
        ·have HN := Lib.hid (rvO_bad HC.out (by rw [HR.out, HDR.out, rvN_bad HXF.out HV.out]; rfl))
         obtain ⟨c_o_0, c_o_1, c_o_2, c_o_3⟩ := zs4 HR_o.out
         have f_o_0 := HR_o.out.fre 0
         have f_o_1 := HR_o.out.fre 1
         have f_o_2 := HR_o.out.fre 2
         have f_o_3 := HR_o.out.fre 3
         go_wp2
         obtain ⟨w6', hX⟩ : ∃ Z9, Z9 = ((((w5'.setCell ⟨w.heap.size, 0, none⟩ (.int .i64 0)).setCell ⟨w.heap.size, 1, none⟩ (.int .i64 0)).setCell ⟨w.heap.size, 2, none⟩ (.int .i64 0)).setCell ⟨w.heap.size, 3, none⟩ (.slice none 0 0)) := ⟨_, rfl⟩
         rw [← hX]
         have n_o : Hid (RH w6' w.heap.size #[.int .i64 0, .int .i64 0, .int .i64 0, .slice none 0 0] 24) := by rw [hX]; exact Lib.hid (((((HR_o.out).set 0 (.int .i64 0)).set 1 (.int .i64 0)).set 2 (.int .i64 0)).set 3 (.slice none 0 0))
         have n_n : Hid (RH w6' b_n #[.int .i64 (((ns.getD 0 0 : Nat) : Int)), .int .i64 (((ns.getD 1 0 : Nat) : Int)), .int .i64 (((ns.getD 2 0 : Nat) : Int))] 38) := by rw [hX]; exact Lib.hid (zzo (zzo (zzo (zzo (HR_n.out) (by omega)) (by omega)) (by omega)) (by omega))
         have HK_ : ∀ p : Addr, p.block ≠ w.heap.size → w6'.cell? p = w5'.cell? p := fun p hp => by rw [hX]; exact (cs_vr hp).trans ((cs_vr hp).trans ((cs_vr hp).trans (cs_vr hp)))
         have n_HSP : Hid (SlS w6' (some ⟨pb, po, none⟩) P cp) := Lib.hid (HSP.out.far HR_o.out.box (noS_all (by simp [isS])) HK_)
         have nW : Hid (Below w.heap.size w w6') := by rw [hX]; exact Lib.hid (zzw (zzw (zzw (zzw (HW.out) (by omega)) (by omega)) (by omega)) (by omega))
         clear c_o_0 c_o_1 c_o_2 c_o_3 f_o_0 f_o_1 f_o_2 f_o_3
         clear hX HK_ HW HR_o HR_n HSP
         have HR_o := n_o; clear n_o
         have HR_n := n_n; clear n_n
         have HSP := n_HSP; clear n_HSP
         have HW := nW; clear nW
         obtain ⟨c_o_0, c_o_1, c_o_2, c_o_3⟩ := zs4 HR_o.out
         exact bodyPost_ret (v := .tuple #[.agg #[.int .i64 0, .int .i64 0, .int .i64 0, .slice none 0 0], .int .i64 (0), .bool false]) (by simp [results, Tryz.results18, go_sem, c_o_0, c_o_1, c_o_2, c_o_3]) rfl ⟨_, [.int .i64 0, .int .i64 0, .int .i64 0, .slice none 0 0], _, _, rfl, rep_nil, .inr ⟨HN.out, rfl⟩, HW.out⟩
       | some v =>
        have HV := Lib.hid hv
        clear hv
        -- the number
        simp only [Option.getD_some, Option.isSome_some]
        cases ob
        ·have hnl := HO.out rfl
         have hk2 : k = 0 ∨ k = 1 ∨ k = 2 := by omega
         rcases hk2 with rfl | rfl | rfl
         ·obtain rfl : ns = [] := List.eq_nil_of_length_eq_zero hnl
          have HR_n' : Hid (RH w5' b_n #[.int .i64 0, .int .i64 0, .int .i64 0] 38) := HR_n
          replace HR_n := HR_n'
          clear HR_n'
          obtain ⟨c_n_0, c_n_1, c_n_2⟩ := zs3 HR_n.out
          have f_n_0 := HR_n.out.fre 0
          have f_n_1 := HR_n.out.fre 1
          have f_n_2 := HR_n.out.fre 2
          clear HO HNK hnl hnk
          go_wp2
          obtain ⟨w6', hX⟩ : ∃ Z9, Z9 = (w5'.setCell ⟨b_n, 0, none⟩ (.int .i64 (((v : Nat) : Int)))) := ⟨_, rfl⟩
          rw [← hX]
          have n_n : Hid (RH w6' b_n #[.int .i64 (((v : Nat) : Int)), .int .i64 0, .int .i64 0] 38) := by rw [hX]; exact Lib.hid ((HR_n.out).set 0 (.int .i64 (((v : Nat) : Int))))
          have n_o : Hid (RH w6' w.heap.size #[.int .i64 0, .int .i64 0, .int .i64 0, .slice none 0 0] 24) := by rw [hX]; exact Lib.hid (zzo (HR_o.out) (by omega))
          have HK_ : ∀ p : Addr, p.block ≠ b_n → w6'.cell? p = w5'.cell? p := fun p hp => by rw [hX]; exact cs_vr hp
          have n_HSP : Hid (SlS w6' (some ⟨pb, po, none⟩) P cp) := Lib.hid (HSP.out.far HR_n.out.box (noS_all (by simp [isS])) HK_)
          have nW : Hid (Below w.heap.size w w6') := by rw [hX]; exact Lib.hid (zzw (HW.out) (by omega))
          clear c_n_0 c_n_1 c_n_2 f_n_0 f_n_1 f_n_2
          clear hX HK_ HW HR_o HR_n HSP
          have HR_o := n_o; clear n_o
          have HR_n := n_n; clear n_n
          have HSP := n_HSP; clear n_HSP
          have HW := nW; clear nW
          go_roundw
          case rel => exact ⟨1, [v], false, by omega, by go_num, rfl, by go_num, Lib.hid (by rw [HR.out, HDR.out, rvN_num HXF.out HV.out]; cases rvN (List.map (fun x : ByteArray => x.data.toList) (P.drop 1)) false <;> rfl), Lib.hid (fun _ => rfl), Lib.hid (Nat.le_refl _), HR_o.out, HR_n.out, HSP.out, HW.out⟩
          case measure => simp [intOf]; omega
         ·obtain ⟨x0, rfl⟩ : ∃ x0, ns = [x0] := by
           match ns, hnl with
           | [x0], _ => exact ⟨x0, rfl⟩
          have HR_n' : Hid (RH w5' b_n #[.int .i64 (((x0 : Nat) : Int)), .int .i64 0, .int .i64 0] 38) := HR_n
          replace HR_n := HR_n'
          clear HR_n'
          obtain ⟨c_n_0, c_n_1, c_n_2⟩ := zs3 HR_n.out
          have f_n_0 := HR_n.out.fre 0
          have f_n_1 := HR_n.out.fre 1
          have f_n_2 := HR_n.out.fre 2
          clear HO HNK hnl hnk
          go_wp2
          obtain ⟨w6', hX⟩ : ∃ Z9, Z9 = (w5'.setCell ⟨b_n, 1, none⟩ (.int .i64 (((v : Nat) : Int)))) := ⟨_, rfl⟩
          rw [← hX]
          have n_n : Hid (RH w6' b_n #[.int .i64 (((x0 : Nat) : Int)), .int .i64 (((v : Nat) : Int)), .int .i64 0] 38) := by rw [hX]; exact Lib.hid ((HR_n.out).set 1 (.int .i64 (((v : Nat) : Int))))
          have n_o : Hid (RH w6' w.heap.size #[.int .i64 0, .int .i64 0, .int .i64 0, .slice none 0 0] 24) := by rw [hX]; exact Lib.hid (zzo (HR_o.out) (by omega))
          have HK_ : ∀ p : Addr, p.block ≠ b_n → w6'.cell? p = w5'.cell? p := fun p hp => by rw [hX]; exact cs_vr hp
          have n_HSP : Hid (SlS w6' (some ⟨pb, po, none⟩) P cp) := Lib.hid (HSP.out.far HR_n.out.box (noS_all (by simp [isS])) HK_)
          have nW : Hid (Below w.heap.size w w6') := by rw [hX]; exact Lib.hid (zzw (HW.out) (by omega))
          clear c_n_0 c_n_1 c_n_2 f_n_0 f_n_1 f_n_2
          clear hX HK_ HW HR_o HR_n HSP
          have HR_o := n_o; clear n_o
          have HR_n := n_n; clear n_n
          have HSP := n_HSP; clear n_HSP
          have HW := nW; clear nW
          go_roundw
          case rel => exact ⟨2, [x0, v], false, by omega, by go_num, rfl, by go_num, Lib.hid (by rw [HR.out, HDR.out, rvN_num HXF.out HV.out]; cases rvN (List.map (fun x : ByteArray => x.data.toList) (P.drop 2)) false <;> rfl), Lib.hid (fun _ => rfl), Lib.hid (Nat.le_refl _), HR_o.out, HR_n.out, HSP.out, HW.out⟩
          case measure => simp [intOf]; omega
         ·obtain ⟨x0, x1, rfl⟩ : ∃ x0 x1, ns = [x0, x1] := by
           match ns, hnl with
           | [x0, x1], _ => exact ⟨x0, x1, rfl⟩
          have HR_n' : Hid (RH w5' b_n #[.int .i64 (((x0 : Nat) : Int)), .int .i64 (((x1 : Nat) : Int)), .int .i64 0] 38) := HR_n
          replace HR_n := HR_n'
          clear HR_n'
          obtain ⟨c_n_0, c_n_1, c_n_2⟩ := zs3 HR_n.out
          have f_n_0 := HR_n.out.fre 0
          have f_n_1 := HR_n.out.fre 1
          have f_n_2 := HR_n.out.fre 2
          clear HO HNK hnl hnk
          go_wp2
          obtain ⟨w6', hX⟩ : ∃ Z9, Z9 = (w5'.setCell ⟨b_n, 2, none⟩ (.int .i64 (((v : Nat) : Int)))) := ⟨_, rfl⟩
          rw [← hX]
          have n_n : Hid (RH w6' b_n #[.int .i64 (((x0 : Nat) : Int)), .int .i64 (((x1 : Nat) : Int)), .int .i64 (((v : Nat) : Int))] 38) := by rw [hX]; exact Lib.hid ((HR_n.out).set 2 (.int .i64 (((v : Nat) : Int))))
          have n_o : Hid (RH w6' w.heap.size #[.int .i64 0, .int .i64 0, .int .i64 0, .slice none 0 0] 24) := by rw [hX]; exact Lib.hid (zzo (HR_o.out) (by omega))
          have HK_ : ∀ p : Addr, p.block ≠ b_n → w6'.cell? p = w5'.cell? p := fun p hp => by rw [hX]; exact cs_vr hp
          have n_HSP : Hid (SlS w6' (some ⟨pb, po, none⟩) P cp) := Lib.hid (HSP.out.far HR_n.out.box (noS_all (by simp [isS])) HK_)
          have nW : Hid (Below w.heap.size w w6') := by rw [hX]; exact Lib.hid (zzw (HW.out) (by omega))
          clear c_n_0 c_n_1 c_n_2 f_n_0 f_n_1 f_n_2
          clear hX HK_ HW HR_o HR_n HSP
          have HR_o := n_o; clear n_o
          have HR_n := n_n; clear n_n
          have HSP := n_HSP; clear n_HSP
          have HW := nW; clear nW
          go_roundw
          case rel => exact ⟨3, [x0, x1, v], false, by omega, by go_num, rfl, by go_num, Lib.hid (by rw [HR.out, HDR.out, rvN_num HXF.out HV.out]; cases rvN (List.map (fun x : ByteArray => x.data.toList) (P.drop 3)) false <;> rfl), Lib.hid (fun _ => rfl), Lib.hid (Nat.le_refl _), HR_o.out, HR_n.out, HSP.out, HW.out⟩
          case measure => simp [intOf]; omega
        ·have HN := Lib.hid (rvO_bad HC.out (by rw [HR.out, HDR.out, rvN_open HXF.out]; rfl))
         obtain ⟨c_o_0, c_o_1, c_o_2, c_o_3⟩ := zs4 HR_o.out
         have f_o_0 := HR_o.out.fre 0
         have f_o_1 := HR_o.out.fre 1
         have f_o_2 := HR_o.out.fre 2
         have f_o_3 := HR_o.out.fre 3
         go_wp2
         obtain ⟨w6', hX⟩ : ∃ Z9, Z9 = ((((w5'.setCell ⟨w.heap.size, 0, none⟩ (.int .i64 0)).setCell ⟨w.heap.size, 1, none⟩ (.int .i64 0)).setCell ⟨w.heap.size, 2, none⟩ (.int .i64 0)).setCell ⟨w.heap.size, 3, none⟩ (.slice none 0 0)) := ⟨_, rfl⟩
         rw [← hX]
         have n_o : Hid (RH w6' w.heap.size #[.int .i64 0, .int .i64 0, .int .i64 0, .slice none 0 0] 24) := by rw [hX]; exact Lib.hid (((((HR_o.out).set 0 (.int .i64 0)).set 1 (.int .i64 0)).set 2 (.int .i64 0)).set 3 (.slice none 0 0))
         have n_n : Hid (RH w6' b_n #[.int .i64 (((ns.getD 0 0 : Nat) : Int)), .int .i64 (((ns.getD 1 0 : Nat) : Int)), .int .i64 (((ns.getD 2 0 : Nat) : Int))] 38) := by rw [hX]; exact Lib.hid (zzo (zzo (zzo (zzo (HR_n.out) (by omega)) (by omega)) (by omega)) (by omega))
         have HK_ : ∀ p : Addr, p.block ≠ w.heap.size → w6'.cell? p = w5'.cell? p := fun p hp => by rw [hX]; exact (cs_vr hp).trans ((cs_vr hp).trans ((cs_vr hp).trans (cs_vr hp)))
         have n_HSP : Hid (SlS w6' (some ⟨pb, po, none⟩) P cp) := Lib.hid (HSP.out.far HR_o.out.box (noS_all (by simp [isS])) HK_)
         have nW : Hid (Below w.heap.size w w6') := by rw [hX]; exact Lib.hid (zzw (zzw (zzw (zzw (HW.out) (by omega)) (by omega)) (by omega)) (by omega))
         clear c_o_0 c_o_1 c_o_2 c_o_3 f_o_0 f_o_1 f_o_2 f_o_3
         clear hX HK_ HW HR_o HR_n HSP
         have HR_o := n_o; clear n_o
         have HR_n := n_n; clear n_n
         have HSP := n_HSP; clear n_HSP
         have HW := nW; clear nW
         obtain ⟨c_o_0, c_o_1, c_o_2, c_o_3⟩ := zs4 HR_o.out
         exact bodyPost_ret (v := .tuple #[.agg #[.int .i64 0, .int .i64 0, .int .i64 0, .slice none 0 0], .int .i64 (0), .bool false]) (by simp [results, Tryz.results18, go_sem, c_o_0, c_o_1, c_o_2, c_o_3]) rfl ⟨_, [.int .i64 0, .int .i64 0, .int .i64 0, .slice none 0 0], _, _, rfl, rep_nil, .inr ⟨HN.out, rfl⟩, HW.out⟩
   ·obtain rfl : k = P.length := by omega
    have HNS : Hid (rvN (cutL 46 hd) false = some ns) := Lib.hid (by rw [HR.out, List.drop_length]; show Option.map _ (some []) = _; simp)
    have HYES := Lib.hid (rvO_yes HC.out (by rw [← HPN.out]; omega) HNS.out)
    obtain ⟨n0, hn0⟩ : ∃ z, ns.getD 0 0 = z := ⟨_, rfl⟩
    obtain ⟨n1, hn1⟩ : ∃ z, ns.getD 1 0 = z := ⟨_, rfl⟩
    obtain ⟨n2, hn2⟩ : ∃ z, ns.getD 2 0 = z := ⟨_, rfl⟩
    rw [hn0, hn1, hn2] at HYES HR_n
    obtain ⟨m, hm⟩ : ∃ z, ns.length = z := ⟨_, rfl⟩
    rw [hm] at HYES ⊢
    clear hn0 hn1 hn2 hm HR HO HNK HNS hnk HSP HPZ HPL HPN hlt h3 h3' hp63 hk
    obtain ⟨c_n_0, c_n_1, c_n_2⟩ := zs3 HR_n.out
    obtain ⟨c_o_0, c_o_1, c_o_2, c_o_3⟩ := zs4 HR_o.out
    have f_o_0 := HR_o.out.fre 0
    have f_o_1 := HR_o.out.fre 1
    have f_o_2 := HR_o.out.fre 2
    have f_o_3 := HR_o.out.fre 3
    cases tl with
    | none =>
     have HN : Hid (rvO s.data.toList = some (⟨(n0 : Int), (n1 : Int), (n2 : Int), []⟩, m)) := Lib.hid (by rw [HYES.out, if_pos ⟨rfl, .inl rfl, Nat.zero_le _⟩]; rfl)
     simp only [Option.isSome_none, Option.getD_none]
     go_wp2
     obtain ⟨w5', hX⟩ : ∃ Z9, Z9 = ((((((((X.setCell ⟨w.heap.size, 0, none⟩ (.int .i64 (((n0 : Nat) : Int)))).setCell ⟨w.heap.size, 1, none⟩ (.int .i64 (((n1 : Nat) : Int)))).setCell ⟨w.heap.size, 2, none⟩ (.int .i64 (((n2 : Nat) : Int)))).setCell ⟨w.heap.size, 3, none⟩ (.slice none 0 0)).setCell ⟨w.heap.size, 0, none⟩ (.int .i64 (((n0 : Nat) : Int)))).setCell ⟨w.heap.size, 1, none⟩ (.int .i64 (((n1 : Nat) : Int)))).setCell ⟨w.heap.size, 2, none⟩ (.int .i64 (((n2 : Nat) : Int)))).setCell ⟨w.heap.size, 3, none⟩ (.slice none 0 0)) := ⟨_, rfl⟩
     rw [← hX]
     have n_o : Hid (RH w5' w.heap.size #[.int .i64 (((n0 : Nat) : Int)), .int .i64 (((n1 : Nat) : Int)), .int .i64 (((n2 : Nat) : Int)), .slice none 0 0] 24) := by rw [hX]; exact Lib.hid (((((((((HR_o.out).set 0 (.int .i64 (((n0 : Nat) : Int)))).set 1 (.int .i64 (((n1 : Nat) : Int)))).set 2 (.int .i64 (((n2 : Nat) : Int)))).set 3 (.slice none 0 0)).set 0 (.int .i64 (((n0 : Nat) : Int)))).set 1 (.int .i64 (((n1 : Nat) : Int)))).set 2 (.int .i64 (((n2 : Nat) : Int)))).set 3 (.slice none 0 0))
     have n_n : Hid (RH w5' b_n #[.int .i64 (((n0 : Nat) : Int)), .int .i64 (((n1 : Nat) : Int)), .int .i64 (((n2 : Nat) : Int))] 38) := by rw [hX]; exact Lib.hid (zzo (zzo (zzo (zzo (zzo (zzo (zzo (zzo (HR_n.out) (by omega)) (by omega)) (by omega)) (by omega)) (by omega)) (by omega)) (by omega)) (by omega))
     have HK_ : ∀ p : Addr, p.block ≠ w.heap.size → w5'.cell? p = X.cell? p := fun p hp => by rw [hX]; exact (cs_vr hp).trans ((cs_vr hp).trans ((cs_vr hp).trans ((cs_vr hp).trans ((cs_vr hp).trans ((cs_vr hp).trans ((cs_vr hp).trans (cs_vr hp)))))))
     have nW : Hid (Below w.heap.size w w5') := by rw [hX]; exact Lib.hid (zzw (zzw (zzw (zzw (zzw (zzw (zzw (zzw (HW.out) (by omega)) (by omega)) (by omega)) (by omega)) (by omega)) (by omega)) (by omega)) (by omega))
     clear c_n_0 c_n_1 c_n_2 c_o_0 c_o_1 c_o_2 c_o_3 f_o_0 f_o_1 f_o_2 f_o_3
     clear hX HK_ HW HR_o HR_n 
     have HR_o := n_o; clear n_o
     have HR_n := n_n; clear n_n
     have HW := nW; clear nW
     obtain ⟨c_o_0, c_o_1, c_o_2, c_o_3⟩ := zs4 HR_o.out
     exact bodyPost_ret (v := .tuple #[.agg #[.int .i64 (((n0 : Nat) : Int)), .int .i64 (((n1 : Nat) : Int)), .int .i64 (((n2 : Nat) : Int)), .slice none 0 0], .int .i64 ((m : Int)), .bool true]) (by simp [results, Tryz.results18, go_sem, c_o_0, c_o_1, c_o_2, c_o_3]) rfl ⟨_, [.int .i64 (((n0 : Nat) : Int)), .int .i64 (((n1 : Nat) : Int)), .int .i64 (((n2 : Nat) : Int)), .slice none 0 0], _, _, rfl, rep_nil, .inl ⟨m, HN.out, rfl, rfl⟩, HW.out⟩
    | some val =>
     simp only [Option.isSome_some, Option.getD_some]
     have hq := HL.out.2 _ rfl
     go_upto_region 19 with (fail)
     obtain ⟨w5', hX⟩ : ∃ Z9, Z9 = ((((X.setCell ⟨w.heap.size, 0, none⟩ (.int .i64 (((n0 : Nat) : Int)))).setCell ⟨w.heap.size, 1, none⟩ (.int .i64 (((n1 : Nat) : Int)))).setCell ⟨w.heap.size, 2, none⟩ (.int .i64 (((n2 : Nat) : Int)))).setCell ⟨w.heap.size, 3, none⟩ (.slice none 0 0)) := ⟨_, rfl⟩
     rw [← hX]
     have n_o : Hid (RH w5' w.heap.size #[.int .i64 (((n0 : Nat) : Int)), .int .i64 (((n1 : Nat) : Int)), .int .i64 (((n2 : Nat) : Int)), .slice none 0 0] 24) := by rw [hX]; exact Lib.hid (((((HR_o.out).set 0 (.int .i64 (((n0 : Nat) : Int)))).set 1 (.int .i64 (((n1 : Nat) : Int)))).set 2 (.int .i64 (((n2 : Nat) : Int)))).set 3 (.slice none 0 0))
     have n_n : Hid (RH w5' b_n #[.int .i64 (((n0 : Nat) : Int)), .int .i64 (((n1 : Nat) : Int)), .int .i64 (((n2 : Nat) : Int))] 38) := by rw [hX]; exact Lib.hid (zzo (zzo (zzo (zzo (HR_n.out) (by omega)) (by omega)) (by omega)) (by omega))
     have HK_ : ∀ p : Addr, p.block ≠ w.heap.size → w5'.cell? p = X.cell? p := fun p hp => by rw [hX]; exact (cs_vr hp).trans ((cs_vr hp).trans ((cs_vr hp).trans (cs_vr hp)))
     have nW : Hid (Below w.heap.size w w5') := by rw [hX]; exact Lib.hid (zzw (zzw (zzw (zzw (HW.out) (by omega)) (by omega)) (by omega)) (by omega))
     clear c_n_0 c_n_1 c_n_2 c_o_0 c_o_1 c_o_2 c_o_3 f_o_0 f_o_1 f_o_2 f_o_3
     clear hX HK_ HW HR_o HR_n 
     have HR_o := n_o; clear n_o
     have HR_n := n_n; clear n_n
     have HW := nW; clear nW
     clear HR_n
     go_wp2_with fail
     refine (split_at (stB val) 46 (by rw [stB_size]; have := HS0.out; omega) w5' (HML.out.ext HW.out)).mono ?_
     rintro e w6' ⟨aq, cq, rfl, hsl, hbz⟩
     rw [stB_list] at hsl ⊢
     obtain ⟨Q, hQ⟩ : ∃ Q, (cutL 46 val).map stB = Q := ⟨_, rfl⟩
     rw [hQ] at hsl ⊢
     replace HR_o := Lib.hid (HR_o.out.ext hbz)
     replace HW := Lib.hid (ext_trans HW.out hbz)
     clear hbz
     have HSQ : Hid (SlS w6' aq Q cq) := Lib.hid hsl
     clear hsl
     have HQZ : Hid (∀ u ∈ Q, u.size ≤ maxLen) := Lib.hid (by rw [← hQ]; exact fun u hu => Nat.le_trans (pieces_size (Nat.le_refl _) u hu) (by have := HS0.out; unfold maxLen; omega))
     have HQY : Hid (rvO s.data.toList = if Q.all preOk = true ∧ m = 3 ∧ Q.length ≤ 10 then some (⟨(n0 : Int), (n1 : Int), (n2 : Int), Q⟩, m) else none) := Lib.hid (by rw [HYES.out, preO_some, hQ]; simp)
     have hp63 := Sl.len63 HSQ.out
     clear hQ HYES hq
     obtain ⟨c_o_0, c_o_1, c_o_2, c_o_3⟩ := zs4 HR_o.out
     have f_o_0 := HR_o.out.fre 0
     have f_o_1 := HR_o.out.fre 1
     have f_o_2 := HR_o.out.fre 2
     have f_o_3 := HR_o.out.fre 3
     go_wp2
     obtain ⟨w7', hX⟩ : ∃ Z9, Z9 = (w6'.setCell ⟨w.heap.size, 3, none⟩ (.slice aq Q.length cq)) := ⟨_, rfl⟩
     rw [← hX]
     have n_o : Hid (RH w7' w.heap.size #[.int .i64 (((n0 : Nat) : Int)), .int .i64 (((n1 : Nat) : Int)), .int .i64 (((n2 : Nat) : Int)), .slice aq Q.length cq] 24) := by rw [hX]; exact Lib.hid ((HR_o.out).set 3 (.slice aq Q.length cq))
     have HK_ : ∀ p : Addr, p.block ≠ w.heap.size → w7'.cell? p = w6'.cell? p := fun p hp => by rw [hX]; exact cs_vr hp
     have n_HSQ : Hid (SlS w7' aq Q cq) := Lib.hid (HSQ.out.far HR_o.out.box (noS_all (by simp [isS])) HK_)
     have nW : Hid (Below w.heap.size w w7') := by rw [hX]; exact Lib.hid (zzw (HW.out) (by omega))
     clear c_o_0 c_o_1 c_o_2 c_o_3 f_o_0 f_o_1 f_o_2 f_o_3
     clear hX HK_ HW HR_o HSQ
     have HR_o := n_o; clear n_o
     have HSQ := n_HSQ; clear n_HSQ
     have HW := nW; clear nW
     go_loopw [3, 77] (fun l i wr => ∃ k : Nat, k ≤ Q.length ∧ l = .int .i64 (m : Int) ∧ i = .int .i64 (k : Int) ∧ Hid ((Q.take k).all preOk = true) ∧ (RH wr w.heap.size #[.int .i64 (((n0 : Nat) : Int)), .int .i64 (((n1 : Nat) : Int)), .int .i64 (((n2 : Nat) : Int)), .slice aq Q.length cq] 24) ∧ (SlS wr aq Q cq) ∧ (Below w.heap.size w wr)) (fun _ i _ => Q.length - (intOf i).toNat)
     case atStart => exact ⟨0, by omega, rfl, rfl, rfl, HR_o.out, HSQ.out, HW.out⟩
     case round =>
      clear HR_o HSQ HW
      obtain ⟨k, hk, rfl, rfl, HA, q_HR_o, q_HSQ, q_HW⟩ := hrel
      have HR_o := Lib.hid q_HR_o
      have HSQ := Lib.hid q_HSQ
      have HW := Lib.hid q_HW
      clear q_HR_o q_HSQ q_HW
      generalize hX : wr = Y at *
      clear hX
      by_cases hlt : k < Q.length
      ·obtain ⟨pb, po, rfl, e0⟩ := HSQ.out.at hlt
       have husz : Q[k].size ≤ maxLen := HQZ.out _ (List.getElem_mem hlt)
       have HT : Hid ((Q.take (k + 1)).all preOk = preOk Q[k]) := Lib.hid (by rw [List.take_succ_eq_append_getElem hlt, List.all_append, HA.out]; simp)
       have HF : Hid (preOk Q[k] = false → Q.all preOk = false) := Lib.hid (fun h => by rw [List.all_eq_false]; exact ⟨_, List.getElem_mem hlt, by simp [h]⟩)
       generalize Q[k] = u at *
       have hk0 : (0 : Int) ≤ (k : Int) := Int.natCast_nonneg _
       have hk1 : (k : Int) < (Q.length : Int) := by omega
       by_cases hok : preOk u = true
       ·have HK := Lib.hid hok
        clear hok
        go_wp2_with (go_at_call 24; refine (refIsPre_is u husz true HK.out _).mono ?_; rintro e w' ⟨rfl, rfl⟩)
        go_roundw
        case rel => exact ⟨k + 1, by omega, rfl, by go_num, Lib.hid (HT.out.trans HK.out), HR_o.out, HSQ.out, HW.out⟩
        case measure => simp [intOf]; omega
       ·have hok' : preOk u = false := by simpa using hok
        have HK := Lib.hid hok'
        have HN : Hid (rvO s.data.toList = none) := Lib.hid (by rw [HQY.out, if_neg (fun h => by rw [HF.out hok'] at h; exact absurd h.1 (by decide))])
        clear hok hok'
        obtain ⟨c_o_0, c_o_1, c_o_2, c_o_3⟩ := zs4 HR_o.out
        have f_o_0 := HR_o.out.fre 0
        have f_o_1 := HR_o.out.fre 1
        have f_o_2 := HR_o.out.fre 2
        have f_o_3 := HR_o.out.fre 3
        go_wp2_with (go_at_call 24; refine (refIsPre_is u husz false HK.out _).mono ?_; rintro e w' ⟨rfl, rfl⟩)
        obtain ⟨w8', hX⟩ : ∃ Z9, Z9 = ((((Y.setCell ⟨w.heap.size, 0, none⟩ (.int .i64 (((n0 : Nat) : Int)))).setCell ⟨w.heap.size, 1, none⟩ (.int .i64 (((n1 : Nat) : Int)))).setCell ⟨w.heap.size, 2, none⟩ (.int .i64 (((n2 : Nat) : Int)))).setCell ⟨w.heap.size, 3, none⟩ (.slice (some ⟨pb, po, none⟩) Q.length cq)) := ⟨_, rfl⟩
        rw [← hX]
        have n_o : Hid (RH w8' w.heap.size #[.int .i64 (((n0 : Nat) : Int)), .int .i64 (((n1 : Nat) : Int)), .int .i64 (((n2 : Nat) : Int)), .slice (some ⟨pb, po, none⟩) Q.length cq] 24) := by rw [hX]; exact Lib.hid (((((HR_o.out).set 0 (.int .i64 (((n0 : Nat) : Int)))).set 1 (.int .i64 (((n1 : Nat) : Int)))).set 2 (.int .i64 (((n2 : Nat) : Int)))).set 3 (.slice (some ⟨pb, po, none⟩) Q.length cq))
        have HK_ : ∀ p : Addr, p.block ≠ w.heap.size → w8'.cell? p = Y.cell? p := fun p hp => by rw [hX]; exact (cs_vr hp).trans ((cs_vr hp).trans ((cs_vr hp).trans (cs_vr hp)))
        have n_HSQ : Hid (SlS w8' (some ⟨pb, po, none⟩) Q cq) := Lib.hid (HSQ.out.far HR_o.out.box (noS_all (by simp [isS])) HK_)
        have nW : Hid (Below w.heap.size w w8') := by rw [hX]; exact Lib.hid (zzw (zzw (zzw (zzw (HW.out) (by omega)) (by omega)) (by omega)) (by omega))
        clear c_o_0 c_o_1 c_o_2 c_o_3 f_o_0 f_o_1 f_o_2 f_o_3
        clear hX HK_ HW HR_o HSQ
        have HR_o := n_o; clear n_o
        have HSQ := n_HSQ; clear n_HSQ
        have HW := nW; clear nW
        obtain ⟨c_o_0, c_o_1, c_o_2, c_o_3⟩ := zs4 HR_o.out
        exact bodyPost_ret (v := .tuple #[.agg #[.int .i64 (((n0 : Nat) : Int)), .int .i64 (((n1 : Nat) : Int)), .int .i64 (((n2 : Nat) : Int)), .slice (some ⟨pb, po, none⟩) Q.length cq], .int .i64 (0), .bool false]) (by simp [results, Tryz.results18, go_sem, c_o_0, c_o_1, c_o_2, c_o_3]) rfl ⟨_, [.int .i64 (((n0 : Nat) : Int)), .int .i64 (((n1 : Nat) : Int)), .int .i64 (((n2 : Nat) : Int)), .slice (some ⟨pb, po, none⟩) Q.length cq], _, _, rfl, rep_of HSQ.out HQZ.out, .inr ⟨HN.out, rfl⟩, HW.out⟩
      ·have HALL : Hid (Q.all preOk = true) := Lib.hid (by have h := HA.out; rw [List.take_of_length_le (by omega)] at h; exact h)
       clear HA
       obtain ⟨c_o_0, c_o_1, c_o_2, c_o_3⟩ := zs4 HR_o.out
       have f_o_0 := HR_o.out.fre 0
       have f_o_1 := HR_o.out.fre 1
       have f_o_2 := HR_o.out.fre 2
       have f_o_3 := HR_o.out.fre 3
       by_cases hm3 : m = 3
       ·by_cases h10 : Q.length ≤ 10
        ·have HN : Hid (rvO s.data.toList = some (⟨(n0 : Int), (n1 : Int), (n2 : Int), Q⟩, m)) := Lib.hid (by rw [HQY.out, if_pos ⟨HALL.out, hm3, h10⟩])
         have hm3' : ((m : Int) == 3) = true := beq_iff_eq.2 (by omega)
         have h10' : decide ((Q.length : Int) ≤ 10) = true := decide_eq_true (by omega)
         clear hm3 h10 HQY
         go_wp2
         obtain ⟨w8', hX⟩ : ∃ Z9, Z9 = ((((Y.setCell ⟨w.heap.size, 0, none⟩ (.int .i64 (((n0 : Nat) : Int)))).setCell ⟨w.heap.size, 1, none⟩ (.int .i64 (((n1 : Nat) : Int)))).setCell ⟨w.heap.size, 2, none⟩ (.int .i64 (((n2 : Nat) : Int)))).setCell ⟨w.heap.size, 3, none⟩ (.slice aq Q.length cq)) := ⟨_, rfl⟩
         rw [← hX]
         have n_o : Hid (RH w8' w.heap.size #[.int .i64 (((n0 : Nat) : Int)), .int .i64 (((n1 : Nat) : Int)), .int .i64 (((n2 : Nat) : Int)), .slice aq Q.length cq] 24) := by rw [hX]; exact Lib.hid (((((HR_o.out).set 0 (.int .i64 (((n0 : Nat) : Int)))).set 1 (.int .i64 (((n1 : Nat) : Int)))).set 2 (.int .i64 (((n2 : Nat) : Int)))).set 3 (.slice aq Q.length cq))
         have HK_ : ∀ p : Addr, p.block ≠ w.heap.size → w8'.cell? p = Y.cell? p := fun p hp => by rw [hX]; exact (cs_vr hp).trans ((cs_vr hp).trans ((cs_vr hp).trans (cs_vr hp)))
         have n_HSQ : Hid (SlS w8' aq Q cq) := Lib.hid (HSQ.out.far HR_o.out.box (noS_all (by simp [isS])) HK_)
         have nW : Hid (Below w.heap.size w w8') := by rw [hX]; exact Lib.hid (zzw (zzw (zzw (zzw (HW.out) (by omega)) (by omega)) (by omega)) (by omega))
         clear c_o_0 c_o_1 c_o_2 c_o_3 f_o_0 f_o_1 f_o_2 f_o_3
         clear hX HK_ HW HR_o HSQ
         have HR_o := n_o; clear n_o
         have HSQ := n_HSQ; clear n_HSQ
         have HW := nW; clear nW
         obtain ⟨c_o_0, c_o_1, c_o_2, c_o_3⟩ := zs4 HR_o.out
         exact bodyPost_ret (v := .tuple #[.agg #[.int .i64 (((n0 : Nat) : Int)), .int .i64 (((n1 : Nat) : Int)), .int .i64 (((n2 : Nat) : Int)), .slice aq Q.length cq], .int .i64 ((m : Int)), .bool true]) (by simp [results, Tryz.results18, go_sem, c_o_0, c_o_1, c_o_2, c_o_3]) rfl ⟨_, [.int .i64 (((n0 : Nat) : Int)), .int .i64 (((n1 : Nat) : Int)), .int .i64 (((n2 : Nat) : Int)), .slice aq Q.length cq], _, _, rfl, rep_of HSQ.out HQZ.out, .inl ⟨m, HN.out, rfl, rfl⟩, HW.out⟩
        ·have HN : Hid (rvO s.data.toList = none) := Lib.hid (by rw [HQY.out, if_neg (fun h => h10 h.2.2)])
         have hm3' : ((m : Int) == 3) = true := beq_iff_eq.2 (by omega)
         have h10' : decide ((Q.length : Int) ≤ 10) = false := decide_eq_false (by omega)
         clear hm3 h10 HQY
         go_wp2
         obtain ⟨w8', hX⟩ : ∃ Z9, Z9 = ((((Y.setCell ⟨w.heap.size, 0, none⟩ (.int .i64 (((n0 : Nat) : Int)))).setCell ⟨w.heap.size, 1, none⟩ (.int .i64 (((n1 : Nat) : Int)))).setCell ⟨w.heap.size, 2, none⟩ (.int .i64 (((n2 : Nat) : Int)))).setCell ⟨w.heap.size, 3, none⟩ (.slice aq Q.length cq)) := ⟨_, rfl⟩
         rw [← hX]
         have n_o : Hid (RH w8' w.heap.size #[.int .i64 (((n0 : Nat) : Int)), .int .i64 (((n1 : Nat) : Int)), .int .i64 (((n2 : Nat) : Int)), .slice aq Q.length cq] 24) := by rw [hX]; exact Lib.hid (((((HR_o.out).set 0 (.int .i64 (((n0 : Nat) : Int)))).set 1 (.int .i64 (((n1 : Nat) : Int)))).set 2 (.int .i64 (((n2 : Nat) : Int)))).set 3 (.slice aq Q.length cq))
         have HK_ : ∀ p : Addr, p.block ≠ w.heap.size → w8'.cell? p = Y.cell? p := fun p hp => by rw [hX]; exact (cs_vr hp).trans ((cs_vr hp).trans ((cs_vr hp).trans (cs_vr hp)))
         have n_HSQ : Hid (SlS w8' aq Q cq) := Lib.hid (HSQ.out.far HR_o.out.box (noS_all (by simp [isS])) HK_)
         have nW : Hid (Below w.heap.size w w8') := by rw [hX]; exact Lib.hid (zzw (zzw (zzw (zzw (HW.out) (by omega)) (by omega)) (by omega)) (by omega))
         clear c_o_0 c_o_1 c_o_2 c_o_3 f_o_0 f_o_1 f_o_2 f_o_3
         clear hX HK_ HW HR_o HSQ
         have HR_o := n_o; clear n_o
         have HSQ := n_HSQ; clear n_HSQ
         have HW := nW; clear nW
         obtain ⟨c_o_0, c_o_1, c_o_2, c_o_3⟩ := zs4 HR_o.out
         exact bodyPost_ret (v := .tuple #[.agg #[.int .i64 (((n0 : Nat) : Int)), .int .i64 (((n1 : Nat) : Int)), .int .i64 (((n2 : Nat) : Int)), .slice aq Q.length cq], .int .i64 ((m : Int)), .bool false]) (by simp [results, Tryz.results18, go_sem, c_o_0, c_o_1, c_o_2, c_o_3]) rfl ⟨_, [.int .i64 (((n0 : Nat) : Int)), .int .i64 (((n1 : Nat) : Int)), .int .i64 (((n2 : Nat) : Int)), .slice aq Q.length cq], _, _, rfl, rep_of HSQ.out HQZ.out, .inr ⟨HN.out, rfl⟩, HW.out⟩
       ·have HN : Hid (rvO s.data.toList = none) := Lib.hid (by rw [HQY.out, if_neg (fun h => hm3 h.2.1)])
        have hm3' : ((m : Int) == 3) = false := beq_eq_false_iff_ne.2 (by omega)
        clear hm3 HQY
        go_wp2
        obtain ⟨w8', hX⟩ : ∃ Z9, Z9 = ((((Y.setCell ⟨w.heap.size, 0, none⟩ (.int .i64 (((n0 : Nat) : Int)))).setCell ⟨w.heap.size, 1, none⟩ (.int .i64 (((n1 : Nat) : Int)))).setCell ⟨w.heap.size, 2, none⟩ (.int .i64 (((n2 : Nat) : Int)))).setCell ⟨w.heap.size, 3, none⟩ (.slice aq Q.length cq)) := ⟨_, rfl⟩
        rw [← hX]
        have n_o : Hid (RH w8' w.heap.size #[.int .i64 (((n0 : Nat) : Int)), .int .i64 (((n1 : Nat) : Int)), .int .i64 (((n2 : Nat) : Int)), .slice aq Q.length cq] 24) := by rw [hX]; exact Lib.hid (((((HR_o.out).set 0 (.int .i64 (((n0 : Nat) : Int)))).set 1 (.int .i64 (((n1 : Nat) : Int)))).set 2 (.int .i64 (((n2 : Nat) : Int)))).set 3 (.slice aq Q.length cq))
        have HK_ : ∀ p : Addr, p.block ≠ w.heap.size → w8'.cell? p = Y.cell? p := fun p hp => by rw [hX]; exact (cs_vr hp).trans ((cs_vr hp).trans ((cs_vr hp).trans (cs_vr hp)))
        have n_HSQ : Hid (SlS w8' aq Q cq) := Lib.hid (HSQ.out.far HR_o.out.box (noS_all (by simp [isS])) HK_)
        have nW : Hid (Below w.heap.size w w8') := by rw [hX]; exact Lib.hid (zzw (zzw (zzw (zzw (HW.out) (by omega)) (by omega)) (by omega)) (by omega))
        clear c_o_0 c_o_1 c_o_2 c_o_3 f_o_0 f_o_1 f_o_2 f_o_3
        clear hX HK_ HW HR_o HSQ
        have HR_o := n_o; clear n_o
        have HSQ := n_HSQ; clear n_HSQ
        have HW := nW; clear nW
        obtain ⟨c_o_0, c_o_1, c_o_2, c_o_3⟩ := zs4 HR_o.out
        exact bodyPost_ret (v := .tuple #[.agg #[.int .i64 (((n0 : Nat) : Int)), .int .i64 (((n1 : Nat) : Int)), .int .i64 (((n2 : Nat) : Int)), .slice aq Q.length cq], .int .i64 ((m : Int)), .bool false]) (by simp [results, Tryz.results18, go_sem, c_o_0, c_o_1, c_o_2, c_o_3]) rfl ⟨_, [.int .i64 (((n0 : Nat) : Int)), .int .i64 (((n1 : Nat) : Int)), .int .i64 (((n2 : Nat) : Int)), .slice aq Q.length cq], _, _, rfl, rep_of HSQ.out HQZ.out, .inr ⟨HN.out, rfl⟩, HW.out⟩
end Tx
end Go.Proofs.YtfdaakghkhecgaaGreatDoor
