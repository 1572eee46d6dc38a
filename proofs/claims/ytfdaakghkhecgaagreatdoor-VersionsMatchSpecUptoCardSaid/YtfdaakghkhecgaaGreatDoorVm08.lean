/- ReadVersion of package value. Printed by gen_vread.py. -/
import Derived.Test.YtfdaakghkhecgaaGreatDoorVm04
import Derived.Test.YtfdaakghkhecgaaGreatDoorVm05
import Derived.Test.YtfdaakghkhecgaaGreatDoorVm07
namespace Go.Proofs.YtfdaakghkhecgaaGreatDoor
open Go.RowKit
namespace Tx
open _root_.Go.Proofs.YtfdaakghkhecgaaGreatDoor.Nm
open _root_.Go.Proofs.YtfdaakghkhecgaaGreatDoor.Nt (RH RH.cell RH.box RH.lt RH.new RH.ext RH.fre RH.set RH.other)
set_option maxRecDepth 100000 in
set_option maxHeartbeats 16000000 in
theorem readVer_at (s : ByteArray) (hs : s.size ≤ 1048576) (w : World) (hm : Ml w) : Calls Tryz.prog 6 #[.string s] w (RdPost s.data.toList w) := by
 have HS0 := Lib.hid hs
 have HML := Lib.hid hm
 obtain ⟨hd, tl, hc⟩ : ∃ hd tl, cut1 45 s.data.toList = (hd, tl) := ⟨_, _, rfl⟩
 have HC := Lib.hid hc
 have hln := cut1_len 45 s.data.toList
 rw [hc, show s.data.toList.length = s.size from Array.length_toList] at hln
 have HL := Lib.hid hln
 clear hs hm hln
 go_enter Tryz.func6, Tryz.ntmps6
 go_upto_region 1 with (fail)
 refine wp_vr1 fun w1' hbz hR0 => ?_
 have HR_o : Hid (RH w1' w.heap.size #[.int .i64 0, .int .i64 0, .int .i64 0, .slice none 0 0] 24) := Lib.hid hR0
 have HW := Lib.hid hbz
 clear hbz hR0
 go_wp2_with fail
 refine (cut_at s 45 (by have := HS0.out; omega) w1' (HML.out.ext HW.out)).mono ?_
 rintro e w2' ⟨rfl, hbz⟩
 rw [hc]
 clear hc
 replace HR_o := Lib.hid (HR_o.out.ext hbz)
 replace HW := Lib.hid (ext_trans HW.out hbz)
 clear hbz
 go_wp2_with fail
 refine (split_at (stB hd) 46 (by rw [stB_size]; have := HS0.out; have := HL.out.1; omega) w2' (HML.out.ext HW.out)).mono ?_
 rintro e w3' ⟨ap, cp, rfl, hsl, hbz⟩
 rw [stB_list] at hsl ⊢
 obtain ⟨P, hP⟩ : ∃ P, (cutL 46 hd).map stB = P := ⟨_, rfl⟩
 rw [hP] at hsl ⊢
 replace HR_o := Lib.hid (HR_o.out.ext hbz)
 replace HW := Lib.hid (ext_trans HW.out hbz)
 clear hbz
 have HSP : Hid (SlS w3' ap P cp) := Lib.hid hsl
 clear hsl
 have HPZ : Hid (∀ u ∈ P, u.size ≤ maxLen) := Lib.hid (by rw [← hP]; exact fun u hu => Nat.le_trans (pieces_size (Nat.le_refl _) u hu) (by have := HL.out.1; have := HS0.out; unfold maxLen; omega))
 have HPL : Hid (P.map (·.data.toList) = cutL 46 hd) := Lib.hid (by rw [← hP, List.map_map]; exact List.map_id _)
 have HPN : Hid (P.length = (cutL 46 hd).length) := Lib.hid (by rw [← hP, List.length_map])
 have hp63 := Sl.len63 HSP.out
 clear hP
 by_cases h3 : P.length = 3
 ·have h3' : ((P.length : Int) != 3) = false := by simp; omega
  have hp3 : (P.length : Int) = 3 := by omega
  have HP3 := Lib.hid h3
  clear h3 hp3
  go_upto_region 6 with (fail)
  refine wp_vr1 fun w4' hbz hR0 => ?_
  have lt_o_n : w.heap.size < w3'.heap.size := HR_o.out.lt
  have le_n : w.heap.size ≤ w3'.heap.size := HW.out.size
  replace HR_o := Lib.hid (HR_o.out.ext hbz)
  replace HSP := Lib.hid (HSP.out.ext hbz)
  replace HW := Lib.hid (ext_trans HW.out hbz)
  clear hbz
  have HR_n : Hid (RH w4' w3'.heap.size #[.int .i64 0, .int .i64 0, .int .i64 0] 38) := Lib.hid hR0
  clear hR0
  generalize w3'.heap.size = b_n at *
  go_wp2
  go_loopw [28] (fun i wr => ∃ (k : Nat) (ns : List Nat), k ≤ P.length ∧ i = .int .i64 (k : Int) ∧ Hid (ns.length = k) ∧ Hid (((P.take k).map (·.data.toList)).map vnO = ns.map some) ∧ (RH wr w.heap.size #[.int .i64 0, .int .i64 0, .int .i64 0, .slice none 0 0] 24) ∧ (RH wr b_n #[.int .i64 (((ns.getD 0 0 : Nat) : Int)), .int .i64 (((ns.getD 1 0 : Nat) : Int)), .int .i64 (((ns.getD 2 0 : Nat) : Int))] 38) ∧ (SlS wr ap P cp) ∧ (Below w.heap.size w wr)) (fun i _ => P.length - (intOf i).toNat)
  case atStart => exact ⟨0, [], by omega, rfl, Lib.hid rfl, Lib.hid rfl, HR_o.out, HR_n.out, HSP.out, HW.out⟩
  case round =>
   clear HR_o HR_n HSP HW
   obtain ⟨k, ns, hk, rfl, HNK, HR, q_HR_o, q_HR_n, q_HSP, q_HW⟩ := hrel
   have HR_o := Lib.hid q_HR_o
   have HR_n := Lib.hid q_HR_n
   have HSP := Lib.hid q_HSP
   have HW := Lib.hid q_HW
   clear q_HR_o q_HR_n q_HSP q_HW
   generalize hX : wr = X at *
   clear hX
   by_cases hlt : k < P.length
   ·obtain ⟨pb, po, rfl, e0⟩ := HSP.out.at hlt
    have husz : P[k].size ≤ maxLen := HPZ.out _ (List.getElem_mem hlt)
    have HTK : Hid (((P.take (k + 1)).map (·.data.toList)).map vnO = ((P.take k).map (·.data.toList)).map vnO ++ [vnO P[k].data.toList]) := Lib.hid (by rw [List.take_succ_eq_append_getElem hlt, List.map_append, List.map_append]; rfl)
    have HGE : Hid ((cutL 46 hd)[k]? = some P[k].data.toList) := Lib.hid (by rw [← HPL.out, List.getElem?_map, List.getElem?_eq_getElem hlt]; rfl)
    generalize P[k] = u at *
    have hk0 : (0 : Int) ≤ (k : Int) := Int.natCast_nonneg _
    have hk1 : (k : Int) < (P.length : Int) := by omega
    go_wp2_with fail
    refine (versionNumber_at u husz X).mono ?_
    rintro e w5' ⟨rfl, hbz⟩
    replace HR_o := Lib.hid (HR_o.out.ext hbz)
    replace HR_n := Lib.hid (HR_n.out.ext hbz)
    replace HSP := Lib.hid (HSP.out.ext hbz)
    replace HW := Lib.hid (ext_trans HW.out hbz)
    clear hbz
    clear husz e0
    cases hv : vnO u.data.toList with
    | none =>
     have HN := Lib.hid (verO_fail HC.out HGE.out hv)
     clear hv
     simp only [Option.getD_none, Option.isSome_none]
     obtain ⟨c_o_0, c_o_1, c_o_2, c_o_3⟩ := zs4 HR_o.out
     have f_o_0 := HR_o.out.fre 0
     have f_o_1 := HR_o.out.fre 1
     have f_o_2 := HR_o.out.fre 2
     have f_o_3 := HR_o.out.fre 3
     go_wp2
     obtain ⟨w6', hX⟩ : ∃ Z9, Z9 = ((((w5'.setCell ⟨w.heap.size, 0, none⟩ (.int .i64 0)).setCell ⟨w.heap.size, 1, none⟩ (.int .i64 0)).setCell ⟨w.heap.size, 2, none⟩ (.int .i64 0)).setCell ⟨w.heap.size, 3, none⟩ (.slice none 0 0)) := ⟨_, rfl⟩
     rw [← hX]
     have n_o : Hid (RH w6' w.heap.size #[.int .i64 0, .int .i64 0, .int .i64 0, .slice none 0 0] 24) := by rw [hX]; exact Lib.hid (((((HR_o.out).set 0 (.int .i64 0)).set 1 (.int .i64 0)).set 2 (.int .i64 0)).set 3 (.slice none 0 0))
     have n_n : Hid (RH w6' b_n #[.int .i64 (((ns.getD 0 0 : Nat) : Int)), .int .i64 (((ns.getD 1 0 : Nat) : Int)), .int .i64 (((ns.getD 2 0 : Nat) : Int))] 38) := by rw [hX]; exact Lib.hid (zzo (zzo (zzo (zzo (HR_n.out) (by omega)) (by omega)) (by omega)) (by omega))
     have HK_ : ∀ p : Addr, p.block ≠ w.heap.size → w6'.cell? p = w5'.cell? p := fun p hp => by rw [hX]; exact (cs_vr hp).trans ((cs_vr hp).trans ((cs_vr hp).trans (cs_vr hp)))
     have n_HSP : Hid (SlS w6' (some ⟨pb, po, none⟩) P cp) := Lib.hid (HSP.out.far HR_o.out.box (noS_all (by simp [isS])) HK_)
     have nW : Hid (Below w.heap.size w w6') := by rw [hX]; exact Lib.hid (zzw (zzw (zzw (zzw (HW.out) (by omega)) (by omega)) (by omega)) (by omega))
     clear c_o_0 c_o_1 c_o_2 c_o_3 f_o_0 f_o_1 f_o_2 f_o_3
     clear hX HK_ HW HR_o HR_n HSP
     have HR_o := n_o; clear n_o
     have HR_n := n_n; clear n_n
     have HSP := n_HSP; clear n_HSP
     have HW := nW; clear nW
     obtain ⟨c_o_0, c_o_1, c_o_2, c_o_3⟩ := zs4 HR_o.out
     exact bodyPost_ret (v := .tuple #[.agg #[.int .i64 0, .int .i64 0, .int .i64 0, .slice none 0 0], .int .i64 10]) (by simp [results, Tryz.results6, go_sem, c_o_0, c_o_1, c_o_2, c_o_3]) rfl ⟨_, [.int .i64 0, .int .i64 0, .int .i64 0, .slice none 0 0], _, rfl, rep_nil, .inr ⟨HN.out, rfl, rfl⟩, HW.out⟩
    | some v =>
     have HV := Lib.hid hv
     clear hv
     simp only [Option.getD_some, Option.isSome_some]
     have hnl := HNK.out
     have hk2 : k = 0 ∨ k = 1 ∨ k = 2 := by have := HP3.out; omega
     rcases hk2 with rfl | rfl | rfl
     ·obtain rfl : ns = [] := List.eq_nil_of_length_eq_zero hnl
      have HR_n' : Hid (RH w5' b_n #[.int .i64 0, .int .i64 0, .int .i64 0] 38) := HR_n
      replace HR_n := HR_n'
      clear HR_n'
      obtain ⟨c_n_0, c_n_1, c_n_2⟩ := zs3 HR_n.out
      have f_n_0 := HR_n.out.fre 0
      have f_n_1 := HR_n.out.fre 1
      have f_n_2 := HR_n.out.fre 2
      clear HNK hnl
      go_wp2
      obtain ⟨w6', hX⟩ : ∃ Z9, Z9 = (w5'.setCell ⟨b_n, 0, none⟩ (.int .i64 (((v : Nat) : Int)))) := ⟨_, rfl⟩
      rw [← hX]
      have n_n : Hid (RH w6' b_n #[.int .i64 (((v : Nat) : Int)), .int .i64 0, .int .i64 0] 38) := by rw [hX]; exact Lib.hid ((HR_n.out).set 0 (.int .i64 (((v : Nat) : Int))))
      have n_o : Hid (RH w6' w.heap.size #[.int .i64 0, .int .i64 0, .int .i64 0, .slice none 0 0] 24) := by rw [hX]; exact Lib.hid (zzo (HR_o.out) (by omega))
      have HK_ : ∀ p : Addr, p.block ≠ b_n → w6'.cell? p = w5'.cell? p := fun p hp => by rw [hX]; exact cs_vr hp
      have n_HSP : Hid (SlS w6' (some ⟨pb, po, none⟩) P cp) := Lib.hid (HSP.out.far HR_n.out.box (noS_all (by simp [isS])) HK_)
      have nW : Hid (Below w.heap.size w w6') := by rw [hX]; exact Lib.hid (zzw (HW.out) (by omega))
      clear c_n_0 c_n_1 c_n_2 f_n_0 f_n_1 f_n_2
      clear hX HK_ HW HR_o HR_n HSP
      have HR_o := n_o; clear n_o
      have HR_n := n_n; clear n_n
      have HSP := n_HSP; clear n_HSP
      have HW := nW; clear nW
      go_roundw
      case rel => exact ⟨1, [v], by omega, by go_num, Lib.hid rfl, Lib.hid (by rw [HTK.out, HR.out, HV.out]; rfl), HR_o.out, HR_n.out, HSP.out, HW.out⟩
      case measure => simp [intOf]; omega
     ·obtain ⟨x0, rfl⟩ : ∃ x0, ns = [x0] := by
       match ns, hnl with
       | [x0], _ => exact ⟨x0, rfl⟩
      have HR_n' : Hid (RH w5' b_n #[.int .i64 (((x0 : Nat) : Int)), .int .i64 0, .int .i64 0] 38) := HR_n
      replace HR_n := HR_n'
      clear HR_n'
      obtain ⟨c_n_0, c_n_1, c_n_2⟩ := zs3 HR_n.out
      have f_n_0 := HR_n.out.fre 0
      have f_n_1 := HR_n.out.fre 1
      have f_n_2 := HR_n.out.fre 2
      clear HNK hnl
      go_wp2
      obtain ⟨w6', hX⟩ : ∃ Z9, Z9 = (w5'.setCell ⟨b_n, 1, none⟩ (.int .i64 (((v : Nat) : Int)))) := ⟨_, rfl⟩
      rw [← hX]
      have n_n : Hid (RH w6' b_n #[.int .i64 (((x0 : Nat) : Int)), .int .i64 (((v : Nat) : Int)), .int .i64 0] 38) := by rw [hX]; exact Lib.hid ((HR_n.out).set 1 (.int .i64 (((v : Nat) : Int))))
      have n_o : Hid (RH w6' w.heap.size #[.int .i64 0, .int .i64 0, .int .i64 0, .slice none 0 0] 24) := by rw [hX]; exact Lib.hid (zzo (HR_o.out) (by omega))
      have HK_ : ∀ p : Addr, p.block ≠ b_n → w6'.cell? p = w5'.cell? p := fun p hp => by rw [hX]; exact cs_vr hp
      have n_HSP : Hid (SlS w6' (some ⟨pb, po, none⟩) P cp) := Lib.hid (HSP.out.far HR_n.out.box (noS_all (by simp [isS])) HK_)
      have nW : Hid (Below w.heap.size w w6') := by rw [hX]; exact Lib.hid (zzw (HW.out) (by omega))
      clear c_n_0 c_n_1 c_n_2 f_n_0 f_n_1 f_n_2
      clear hX HK_ HW HR_o HR_n HSP
      have HR_o := n_o; clear n_o
      have HR_n := n_n; clear n_n
      have HSP := n_HSP; clear n_HSP
      have HW := nW; clear nW
      go_roundw
      case rel => exact ⟨2, [x0, v], by omega, by go_num, Lib.hid rfl, Lib.hid (by rw [HTK.out, HR.out, HV.out]; rfl), HR_o.out, HR_n.out, HSP.out, HW.out⟩
      case measure => simp [intOf]; omega
     ·obtain ⟨x0, x1, rfl⟩ : ∃ x0 x1, ns = [x0, x1] := by
       match ns, hnl with
       | [x0, x1], _ => exact ⟨x0, x1, rfl⟩
      have HR_n' : Hid (RH w5' b_n #[.int .i64 (((x0 : Nat) : Int)), .int .i64 (((x1 : Nat) : Int)), .int .i64 0] 38) := HR_n
      replace HR_n := HR_n'
      clear HR_n'
      obtain ⟨c_n_0, c_n_1, c_n_2⟩ := zs3 HR_n.out
      have f_n_0 := HR_n.out.fre 0
      have f_n_1 := HR_n.out.fre 1
      have f_n_2 := HR_n.out.fre 2
      clear HNK hnl
      go_wp2
      obtain ⟨w6', hX⟩ : ∃ Z9, Z9 = (w5'.setCell ⟨b_n, 2, none⟩ (.int .i64 (((v : Nat) : Int)))) := ⟨_, rfl⟩
      rw [← hX]
      have n_n : Hid (RH w6' b_n #[.int .i64 (((x0 : Nat) : Int)), .int .i64 (((x1 : Nat) : Int)), .int .i64 (((v : Nat) : Int))] 38) := by rw [hX]; exact Lib.hid ((HR_n.out).set 2 (.int .i64 (((v : Nat) : Int))))
      have n_o : Hid (RH w6' w.heap.size #[.int .i64 0, .int .i64 0, .int .i64 0, .slice none 0 0] 24) := by rw [hX]; exact Lib.hid (zzo (HR_o.out) (by omega))
      have HK_ : ∀ p : Addr, p.block ≠ b_n → w6'.cell? p = w5'.cell? p := fun p hp => by rw [hX]; exact cs_vr hp
      have n_HSP : Hid (SlS w6' (some ⟨pb, po, none⟩) P cp) := Lib.hid (HSP.out.far HR_n.out.box (noS_all (by simp [isS])) HK_)
      have nW : Hid (Below w.heap.size w w6') := by rw [hX]; exact Lib.hid (zzw (HW.out) (by omega))
      clear c_n_0 c_n_1 c_n_2 f_n_0 f_n_1 f_n_2
      clear hX HK_ HW HR_o HR_n HSP
      have HR_o := n_o; clear n_o
      have HR_n := n_n; clear n_n
      have HSP := n_HSP; clear n_HSP
      have HW := nW; clear nW
      go_roundw
      case rel => exact ⟨3, [x0, x1, v], by omega, by go_num, Lib.hid rfl, Lib.hid (by rw [HTK.out, HR.out, HV.out]; rfl), HR_o.out, HR_n.out, HSP.out, HW.out⟩
      case measure => simp [intOf]; omega
   ·have hk3 : k = 3 := by have := HP3.out; omega
    obtain ⟨n0, n1, n2, hns⟩ : ∃ n0 n1 n2, ns = [n0, n1, n2] := by
     have h9 := HNK.out
     rw [hk3] at h9
     match ns, h9 with
     | [x, y, z], _ => exact ⟨x, y, z, rfl⟩
    subst hns
    have HYES := Lib.hid (verO_yes (x := n0) (y := n1) (z := n2) HC.out (by have h9 := HR.out; rw [List.take_of_length_le (by omega), HPL.out] at h9; exact h9))
    clear HR HNK HSP HPZ HPL HPN hk3 hp63
    have HR_n' : Hid (RH X b_n #[.int .i64 (((n0 : Nat) : Int)), .int .i64 (((n1 : Nat) : Int)), .int .i64 (((n2 : Nat) : Int))] 38) := HR_n
    replace HR_n := HR_n'
    clear HR_n'
    obtain ⟨c_n_0, c_n_1, c_n_2⟩ := zs3 HR_n.out
    go_upto_region 15 with (fail)
    refine wp_vr1 fun w5' hbz hR0 => ?_
    have lt_o_v : w.heap.size < X.heap.size := HR_o.out.lt
    have lt_n_v : b_n < X.heap.size := HR_n.out.lt
    have le_v : w.heap.size ≤ X.heap.size := HW.out.size
    replace HR_o := Lib.hid (HR_o.out.ext hbz)
    replace HR_n := Lib.hid (HR_n.out.ext hbz)
    replace HW := Lib.hid (ext_trans HW.out hbz)
    clear c_n_0 c_n_1 c_n_2
    clear hbz
    have HR_v : Hid (RH w5' X.heap.size #[.int .i64 (((n0 : Nat) : Int)), .int .i64 (((n1 : Nat) : Int)), .int .i64 (((n2 : Nat) : Int)), .slice none 0 0] 24) := Lib.hid hR0
    clear hR0
    generalize X.heap.size = b_v at *
    clear HR_n
    clear hlt hk HP3 h3'
    cases tl with
    | none =>
     have HY : Hid (verO s.data.toList = if chkVer ⟨(n0 : Int), (n1 : Int), (n2 : Int), []⟩ = 0 then some ⟨(n0 : Int), (n1 : Int), (n2 : Int), []⟩ else none) := HYES
     clear HYES
     simp only [Option.isSome_none, Option.getD_none]
     obtain ⟨c_v_0, c_v_1, c_v_2, c_v_3⟩ := zs4 HR_v.out
     go_wp2_with fail
     refine (checkVersion_at ⟨(n0 : Int), (n1 : Int), (n2 : Int), []⟩ [.int .i64 (((n0 : Nat) : Int)), .int .i64 (((n1 : Nat) : Int)), .int .i64 (((n2 : Nat) : Int)), .slice none 0 0] w5' (rep_nil)).mono ?_
     rintro e w6' ⟨rfl, hbz⟩
     obtain ⟨f, hf⟩ : ∃ z, chkVer ⟨(n0 : Int), (n1 : Int), (n2 : Int), []⟩ = z := ⟨_, rfl⟩
     rw [hf] at HY ⊢
     clear hf
     replace HR_o := Lib.hid (HR_o.out.ext hbz)
     replace HR_v := Lib.hid (HR_v.out.ext hbz)
     replace HW := Lib.hid (ext_trans HW.out hbz)
     clear c_v_0 c_v_1 c_v_2 c_v_3
     clear hbz
     by_cases h0 : f = 0
     ·subst h0
      have HN := Lib.hid (HY.out.trans (if_pos rfl))
      clear HY
      obtain ⟨c_v_0, c_v_1, c_v_2, c_v_3⟩ := zs4 HR_v.out
      obtain ⟨c_o_0, c_o_1, c_o_2, c_o_3⟩ := zs4 HR_o.out
      have f_o_0 := HR_o.out.fre 0
      have f_o_1 := HR_o.out.fre 1
      have f_o_2 := HR_o.out.fre 2
      have f_o_3 := HR_o.out.fre 3
      go_wp2
      obtain ⟨w7', hX⟩ : ∃ Z9, Z9 = ((((w6'.setCell ⟨w.heap.size, 0, none⟩ (.int .i64 (((n0 : Nat) : Int)))).setCell ⟨w.heap.size, 1, none⟩ (.int .i64 (((n1 : Nat) : Int)))).setCell ⟨w.heap.size, 2, none⟩ (.int .i64 (((n2 : Nat) : Int)))).setCell ⟨w.heap.size, 3, none⟩ (.slice none 0 0)) := ⟨_, rfl⟩
      rw [← hX]
      have n_o : Hid (RH w7' w.heap.size #[.int .i64 (((n0 : Nat) : Int)), .int .i64 (((n1 : Nat) : Int)), .int .i64 (((n2 : Nat) : Int)), .slice none 0 0] 24) := by rw [hX]; exact Lib.hid (((((HR_o.out).set 0 (.int .i64 (((n0 : Nat) : Int)))).set 1 (.int .i64 (((n1 : Nat) : Int)))).set 2 (.int .i64 (((n2 : Nat) : Int)))).set 3 (.slice none 0 0))
      have n_v : Hid (RH w7' b_v #[.int .i64 (((n0 : Nat) : Int)), .int .i64 (((n1 : Nat) : Int)), .int .i64 (((n2 : Nat) : Int)), .slice none 0 0] 24) := by rw [hX]; exact Lib.hid (zzo (zzo (zzo (zzo (HR_v.out) (by omega)) (by omega)) (by omega)) (by omega))
      have HK_ : ∀ p : Addr, p.block ≠ w.heap.size → w7'.cell? p = w6'.cell? p := fun p hp => by rw [hX]; exact (cs_vr hp).trans ((cs_vr hp).trans ((cs_vr hp).trans (cs_vr hp)))
      have nW : Hid (Below w.heap.size w w7') := by rw [hX]; exact Lib.hid (zzw (zzw (zzw (zzw (HW.out) (by omega)) (by omega)) (by omega)) (by omega))
      clear c_v_0 c_v_1 c_v_2 c_v_3 c_o_0 c_o_1 c_o_2 c_o_3 f_o_0 f_o_1 f_o_2 f_o_3
      clear hX HK_ HW HR_o HR_v 
      have HR_o := n_o; clear n_o
      have HR_v := n_v; clear n_v
      have HW := nW; clear nW
      obtain ⟨c_o_0, c_o_1, c_o_2, c_o_3⟩ := zs4 HR_o.out
      exact bodyPost_ret (v := .tuple #[.agg #[.int .i64 (((n0 : Nat) : Int)), .int .i64 (((n1 : Nat) : Int)), .int .i64 (((n2 : Nat) : Int)), .slice none 0 0], .int .i64 0]) (by simp [results, Tryz.results6, go_sem, c_o_0, c_o_1, c_o_2, c_o_3]) rfl ⟨_, [.int .i64 (((n0 : Nat) : Int)), .int .i64 (((n1 : Nat) : Int)), .int .i64 (((n2 : Nat) : Int)), .slice none 0 0], _, rfl, rep_nil, .inl ⟨HN.out, rfl⟩, HW.out⟩
     ·have hne : (f != 0) = true := by simpa using h0
      have HN := Lib.hid (HY.out.trans (if_neg h0))
      clear HY h0
      obtain ⟨c_o_0, c_o_1, c_o_2, c_o_3⟩ := zs4 HR_o.out
      have f_o_0 := HR_o.out.fre 0
      have f_o_1 := HR_o.out.fre 1
      have f_o_2 := HR_o.out.fre 2
      have f_o_3 := HR_o.out.fre 3
      go_wp2
      obtain ⟨w7', hX⟩ : ∃ Z9, Z9 = ((((w6'.setCell ⟨w.heap.size, 0, none⟩ (.int .i64 0)).setCell ⟨w.heap.size, 1, none⟩ (.int .i64 0)).setCell ⟨w.heap.size, 2, none⟩ (.int .i64 0)).setCell ⟨w.heap.size, 3, none⟩ (.slice none 0 0)) := ⟨_, rfl⟩
      rw [← hX]
      have n_o : Hid (RH w7' w.heap.size #[.int .i64 0, .int .i64 0, .int .i64 0, .slice none 0 0] 24) := by rw [hX]; exact Lib.hid (((((HR_o.out).set 0 (.int .i64 0)).set 1 (.int .i64 0)).set 2 (.int .i64 0)).set 3 (.slice none 0 0))
      have n_v : Hid (RH w7' b_v #[.int .i64 (((n0 : Nat) : Int)), .int .i64 (((n1 : Nat) : Int)), .int .i64 (((n2 : Nat) : Int)), .slice none 0 0] 24) := by rw [hX]; exact Lib.hid (zzo (zzo (zzo (zzo (HR_v.out) (by omega)) (by omega)) (by omega)) (by omega))
      have HK_ : ∀ p : Addr, p.block ≠ w.heap.size → w7'.cell? p = w6'.cell? p := fun p hp => by rw [hX]; exact (cs_vr hp).trans ((cs_vr hp).trans ((cs_vr hp).trans (cs_vr hp)))
      have nW : Hid (Below w.heap.size w w7') := by rw [hX]; exact Lib.hid (zzw (zzw (zzw (zzw (HW.out) (by omega)) (by omega)) (by omega)) (by omega))
      clear c_o_0 c_o_1 c_o_2 c_o_3 f_o_0 f_o_1 f_o_2 f_o_3
      clear hX HK_ HW HR_o HR_v 
      have HR_o := n_o; clear n_o
      have HR_v := n_v; clear n_v
      have HW := nW; clear nW
      obtain ⟨c_o_0, c_o_1, c_o_2, c_o_3⟩ := zs4 HR_o.out
      exact bodyPost_ret (v := .tuple #[.agg #[.int .i64 0, .int .i64 0, .int .i64 0, .slice none 0 0], .int .i64 10]) (by simp [results, Tryz.results6, go_sem, c_o_0, c_o_1, c_o_2, c_o_3]) rfl ⟨_, [.int .i64 0, .int .i64 0, .int .i64 0, .slice none 0 0], _, rfl, rep_nil, .inr ⟨HN.out, rfl, rfl⟩, HW.out⟩
    | some val =>
     simp only [Option.isSome_some, Option.getD_some]
     have hq := HL.out.2 _ rfl
     go_wp2_with fail
     refine (split_at (stB val) 46 (by rw [stB_size]; have := HS0.out; omega) w5' (HML.out.ext HW.out)).mono ?_
     rintro e w6' ⟨aq, cq, rfl, hsl, hbz⟩
     rw [stB_list] at hsl ⊢
     obtain ⟨Q, hQ⟩ : ∃ Q, (cutL 46 val).map stB = Q := ⟨_, rfl⟩
     rw [hQ] at hsl ⊢
     replace HR_o := Lib.hid (HR_o.out.ext hbz)
     replace HR_v := Lib.hid (HR_v.out.ext hbz)
     replace HW := Lib.hid (ext_trans HW.out hbz)
     clear hbz
     have HSQ : Hid (SlS w6' aq Q cq) := Lib.hid hsl
     clear hsl
     have HQZ : Hid (∀ u ∈ Q, u.size ≤ maxLen) := Lib.hid (by rw [← hQ]; exact fun u hu => Nat.le_trans (pieces_size (Nat.le_refl _) u hu) (by have := HS0.out; unfold maxLen; omega))
     have HY : Hid (verO s.data.toList = if chkVer ⟨(n0 : Int), (n1 : Int), (n2 : Int), Q⟩ = 0 then some ⟨(n0 : Int), (n1 : Int), (n2 : Int), Q⟩ else none) := Lib.hid (by rw [HYES.out, preO_some, hQ])
     clear hQ HYES hq
     obtain ⟨c_v_0, c_v_1, c_v_2, c_v_3⟩ := zs4 HR_v.out
     have f_v_0 := HR_v.out.fre 0
     have f_v_1 := HR_v.out.fre 1
     have f_v_2 := HR_v.out.fre 2
     have f_v_3 := HR_v.out.fre 3
     go_upto_region 17 with (fail)
     obtain ⟨w7', hX⟩ : ∃ Z9, Z9 = (w6'.setCell ⟨b_v, 3, none⟩ (.slice aq Q.length cq)) := ⟨_, rfl⟩
     rw [← hX]
     have n_v : Hid (RH w7' b_v #[.int .i64 (((n0 : Nat) : Int)), .int .i64 (((n1 : Nat) : Int)), .int .i64 (((n2 : Nat) : Int)), .slice aq Q.length cq] 24) := by rw [hX]; exact Lib.hid ((HR_v.out).set 3 (.slice aq Q.length cq))
     have n_o : Hid (RH w7' w.heap.size #[.int .i64 0, .int .i64 0, .int .i64 0, .slice none 0 0] 24) := by rw [hX]; exact Lib.hid (zzo (HR_o.out) (by omega))
     have HK_ : ∀ p : Addr, p.block ≠ b_v → w7'.cell? p = w6'.cell? p := fun p hp => by rw [hX]; exact cs_vr hp
     have n_HSQ : Hid (SlS w7' aq Q cq) := Lib.hid (HSQ.out.far HR_v.out.box (noS_all (by simp [isS])) HK_)
     have nW : Hid (Below w.heap.size w w7') := by rw [hX]; exact Lib.hid (zzw (HW.out) (by omega))
     clear c_v_0 c_v_1 c_v_2 c_v_3 f_v_0 f_v_1 f_v_2 f_v_3
     clear hX HK_ HW HR_o HR_v HSQ
     have HR_o := n_o; clear n_o
     have HR_v := n_v; clear n_v
     have HSQ := n_HSQ; clear n_HSQ
     have HW := nW; clear nW
     obtain ⟨c_v_0, c_v_1, c_v_2, c_v_3⟩ := zs4 HR_v.out
     go_wp2_with fail
     refine (checkVersion_at ⟨(n0 : Int), (n1 : Int), (n2 : Int), Q⟩ [.int .i64 (((n0 : Nat) : Int)), .int .i64 (((n1 : Nat) : Int)), .int .i64 (((n2 : Nat) : Int)), .slice aq Q.length cq] w7' (rep_of HSQ.out HQZ.out)).mono ?_
     rintro e w8' ⟨rfl, hbz⟩
     obtain ⟨f, hf⟩ : ∃ z, chkVer ⟨(n0 : Int), (n1 : Int), (n2 : Int), Q⟩ = z := ⟨_, rfl⟩
     rw [hf] at HY ⊢
     clear hf
     replace HR_o := Lib.hid (HR_o.out.ext hbz)
     replace HR_v := Lib.hid (HR_v.out.ext hbz)
     replace HSQ := Lib.hid (HSQ.out.ext hbz)
     replace HW := Lib.hid (ext_trans HW.out hbz)
     clear c_v_0 c_v_1 c_v_2 c_v_3
     clear hbz
     by_cases h0 : f = 0
     ·subst h0
      have HN := Lib.hid (HY.out.trans (if_pos rfl))
      clear HY
      obtain ⟨c_v_0, c_v_1, c_v_2, c_v_3⟩ := zs4 HR_v.out
      obtain ⟨c_o_0, c_o_1, c_o_2, c_o_3⟩ := zs4 HR_o.out
      have f_o_0 := HR_o.out.fre 0
      have f_o_1 := HR_o.out.fre 1
      have f_o_2 := HR_o.out.fre 2
      have f_o_3 := HR_o.out.fre 3
      go_wp2
      obtain ⟨w9', hX⟩ : ∃ Z9, Z9 = ((((w8'.setCell ⟨w.heap.size, 0, none⟩ (.int .i64 (((n0 : Nat) : Int)))).setCell ⟨w.heap.size, 1, none⟩ (.int .i64 (((n1 : Nat) : Int)))).setCell ⟨w.heap.size, 2, none⟩ (.int .i64 (((n2 : Nat) : Int)))).setCell ⟨w.heap.size, 3, none⟩ (.slice aq Q.length cq)) := ⟨_, rfl⟩
      rw [← hX]
      have n_o : Hid (RH w9' w.heap.size #[.int .i64 (((n0 : Nat) : Int)), .int .i64 (((n1 : Nat) : Int)), .int .i64 (((n2 : Nat) : Int)), .slice aq Q.length cq] 24) := by rw [hX]; exact Lib.hid (((((HR_o.out).set 0 (.int .i64 (((n0 : Nat) : Int)))).set 1 (.int .i64 (((n1 : Nat) : Int)))).set 2 (.int .i64 (((n2 : Nat) : Int)))).set 3 (.slice aq Q.length cq))
      have n_v : Hid (RH w9' b_v #[.int .i64 (((n0 : Nat) : Int)), .int .i64 (((n1 : Nat) : Int)), .int .i64 (((n2 : Nat) : Int)), .slice aq Q.length cq] 24) := by rw [hX]; exact Lib.hid (zzo (zzo (zzo (zzo (HR_v.out) (by omega)) (by omega)) (by omega)) (by omega))
      have HK_ : ∀ p : Addr, p.block ≠ w.heap.size → w9'.cell? p = w8'.cell? p := fun p hp => by rw [hX]; exact (cs_vr hp).trans ((cs_vr hp).trans ((cs_vr hp).trans (cs_vr hp)))
      have n_HSQ : Hid (SlS w9' aq Q cq) := Lib.hid (HSQ.out.far HR_o.out.box (noS_all (by simp [isS])) HK_)
      have nW : Hid (Below w.heap.size w w9') := by rw [hX]; exact Lib.hid (zzw (zzw (zzw (zzw (HW.out) (by omega)) (by omega)) (by omega)) (by omega))
      clear c_v_0 c_v_1 c_v_2 c_v_3 c_o_0 c_o_1 c_o_2 c_o_3 f_o_0 f_o_1 f_o_2 f_o_3
      clear hX HK_ HW HR_o HR_v HSQ
      have HR_o := n_o; clear n_o
      have HR_v := n_v; clear n_v
      have HSQ := n_HSQ; clear n_HSQ
      have HW := nW; clear nW
      obtain ⟨c_o_0, c_o_1, c_o_2, c_o_3⟩ := zs4 HR_o.out
      exact bodyPost_ret (v := .tuple #[.agg #[.int .i64 (((n0 : Nat) : Int)), .int .i64 (((n1 : Nat) : Int)), .int .i64 (((n2 : Nat) : Int)), .slice aq Q.length cq], .int .i64 0]) (by simp [results, Tryz.results6, go_sem, c_o_0, c_o_1, c_o_2, c_o_3]) rfl ⟨_, [.int .i64 (((n0 : Nat) : Int)), .int .i64 (((n1 : Nat) : Int)), .int .i64 (((n2 : Nat) : Int)), .slice aq Q.length cq], _, rfl, rep_of HSQ.out HQZ.out, .inl ⟨HN.out, rfl⟩, HW.out⟩
     ·have hne : (f != 0) = true := by simpa using h0
      have HN := Lib.hid (HY.out.trans (if_neg h0))
      clear HY h0
      obtain ⟨c_o_0, c_o_1, c_o_2, c_o_3⟩ := zs4 HR_o.out
      have f_o_0 := HR_o.out.fre 0
      have f_o_1 := HR_o.out.fre 1
      have f_o_2 := HR_o.out.fre 2
      have f_o_3 := HR_o.out.fre 3
      go_wp2
      obtain ⟨w9', hX⟩ : ∃ Z9, Z9 = ((((w8'.setCell ⟨w.heap.size, 0, none⟩ (.int .i64 0)).setCell ⟨w.heap.size, 1, none⟩ (.int .i64 0)).setCell ⟨w.heap.size, 2, none⟩ (.int .i64 0)).setCell ⟨w.heap.size, 3, none⟩ (.slice none 0 0)) := ⟨_, rfl⟩
      rw [← hX]
      have n_o : Hid (RH w9' w.heap.size #[.int .i64 0, .int .i64 0, .int .i64 0, .slice none 0 0] 24) := by rw [hX]; exact Lib.hid (((((HR_o.out).set 0 (.int .i64 0)).set 1 (.int .i64 0)).set 2 (.int .i64 0)).set 3 (.slice none 0 0))
      have n_v : Hid (RH w9' b_v #[.int .i64 (((n0 : Nat) : Int)), .int .i64 (((n1 : Nat) : Int)), .int .i64 (((n2 : Nat) : Int)), .slice aq Q.length cq] 24) := by rw [hX]; exact Lib.hid (zzo (zzo (zzo (zzo (HR_v.out) (by omega)) (by omega)) (by omega)) (by omega))
      have HK_ : ∀ p : Addr, p.block ≠ w.heap.size → w9'.cell? p = w8'.cell? p := fun p hp => by rw [hX]; exact (cs_vr hp).trans ((cs_vr hp).trans ((cs_vr hp).trans (cs_vr hp)))
      have n_HSQ : Hid (SlS w9' aq Q cq) := Lib.hid (HSQ.out.far HR_o.out.box (noS_all (by simp [isS])) HK_)
      have nW : Hid (Below w.heap.size w w9') := by rw [hX]; exact Lib.hid (zzw (zzw (zzw (zzw (HW.out) (by omega)) (by omega)) (by omega)) (by omega))
      clear c_o_0 c_o_1 c_o_2 c_o_3 f_o_0 f_o_1 f_o_2 f_o_3
      clear hX HK_ HW HR_o HR_v HSQ
      have HR_o := n_o; clear n_o
      have HR_v := n_v; clear n_v
      have HSQ := n_HSQ; clear n_HSQ
      have HW := nW; clear nW
      obtain ⟨c_o_0, c_o_1, c_o_2, c_o_3⟩ := zs4 HR_o.out
      exact bodyPost_ret (v := .tuple #[.agg #[.int .i64 0, .int .i64 0, .int .i64 0, .slice none 0 0], .int .i64 10]) (by simp [results, Tryz.results6, go_sem, c_o_0, c_o_1, c_o_2, c_o_3]) rfl ⟨_, [.int .i64 0, .int .i64 0, .int .i64 0, .slice none 0 0], _, rfl, rep_nil, .inr ⟨HN.out, rfl, rfl⟩, HW.out⟩
 ·have HN := Lib.hid (verO_len HC.out (by rw [← HPN.out]; exact h3))
  have h3' : ((P.length : Int) != 3) = true := by simp; omega
  clear h3
  obtain ⟨c_o_0, c_o_1, c_o_2, c_o_3⟩ := zs4 HR_o.out
  have f_o_0 := HR_o.out.fre 0
  have f_o_1 := HR_o.out.fre 1
  have f_o_2 := HR_o.out.fre 2
  have f_o_3 := HR_o.out.fre 3
  go_wp2
  obtain ⟨w4', hX⟩ : ∃ Z9, Z9 = ((((w3'.setCell ⟨w.heap.size, 0, none⟩ (.int .i64 0)).setCell ⟨w.heap.size, 1, none⟩ (.int .i64 0)).setCell ⟨w.heap.size, 2, none⟩ (.int .i64 0)).setCell ⟨w.heap.size, 3, none⟩ (.slice none 0 0)) := ⟨_, rfl⟩
  rw [← hX]
  have n_o : Hid (RH w4' w.heap.size #[.int .i64 0, .int .i64 0, .int .i64 0, .slice none 0 0] 24) := by rw [hX]; exact Lib.hid (((((HR_o.out).set 0 (.int .i64 0)).set 1 (.int .i64 0)).set 2 (.int .i64 0)).set 3 (.slice none 0 0))
  have HK_ : ∀ p : Addr, p.block ≠ w.heap.size → w4'.cell? p = w3'.cell? p := fun p hp => by rw [hX]; exact (cs_vr hp).trans ((cs_vr hp).trans ((cs_vr hp).trans (cs_vr hp)))
  have n_HSP : Hid (SlS w4' ap P cp) := Lib.hid (HSP.out.far HR_o.out.box (noS_all (by simp [isS])) HK_)
  have nW : Hid (Below w.heap.size w w4') := by rw [hX]; exact Lib.hid (zzw (zzw (zzw (zzw (HW.out) (by omega)) (by omega)) (by omega)) (by omega))
  clear c_o_0 c_o_1 c_o_2 c_o_3 f_o_0 f_o_1 f_o_2 f_o_3
  clear hX HK_ HW HR_o HSP
  have HR_o := n_o; clear n_o
  have HSP := n_HSP; clear n_HSP
  have HW := nW; clear nW
  obtain ⟨c_o_0, c_o_1, c_o_2, c_o_3⟩ := zs4 HR_o.out
  exact bodyPost_ret (v := .tuple #[.agg #[.int .i64 0, .int .i64 0, .int .i64 0, .slice none 0 0], .int .i64 10]) (by simp [results, Tryz.results6, go_sem, c_o_0, c_o_1, c_o_2, c_o_3]) rfl ⟨_, [.int .i64 0, .int .i64 0, .int .i64 0, .slice none 0 0], _, rfl, rep_nil, .inr ⟨HN.out, rfl, rfl⟩, HW.out⟩
end Tx
end Go.Proofs.YtfdaakghkhecgaaGreatDoor
