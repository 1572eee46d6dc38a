/- ReadLog of package event: a log's lines. Printed by gen_logr.py. show, Show of package event. Printed by gen_evw.py. -/
import Derived.Test.YtbgbfjfboaajbaaDoorEl10
import Derived.Test.YtbgbfjfboaajbaaDoorEl13
import Derived.Test.YtbgbfjfboaajbaaDoorEl09
import Derived.Test.YtbgbfjfboaajbaaDoorEl11
namespace Go.Proofs.YtbgbfjfboaajbaaDoor
open Go.RowKit
namespace Tx
set_option maxRecDepth 100000 in
set_option maxHeartbeats 16000000 in
theorem evReadLog_at (s : ByteArray) (w : World) (he : Er w) (ht : Tb w) (hm : Ml w) : Calls Tryd.prog 7 #[.string s] w (RdG s.data.toList w) := by
 have Hhe := Lib.hid he
 have Hht := Lib.hid ht
 have Hhm := Lib.hid hm
 clear he ht hm
 have HP := Lib.hid evt_info
 have hsl0 : s.data.toList.length = s.size := Array.length_toList
 have HSL0 := Lib.hid hsl0
 go_enter Tryd.func7, Tryd.ntmps7
 by_cases hlong : 3000000 < s.size
 ·have HN := Lib.hid (logR_long (t := s.data.toList) (by omega))
  have hlong' : (3000000 : Int) < (s.size : Int) := by omega
  clear hlong hsl0
  go_wp2
  exact bodyPost_ret (v := .tuple #[.slice none 0 0, .int .i64 0, .int .i64 2]) (by simp [results, Tryd.results7, go_sem]) rfl (rdG_bad HN.out (Below.refl _ _))
 have HS : Hid (s.size ≤ 3000000) := Lib.hid (by omega)
 have HL0 : Hid (¬ 3000000 < s.data.toList.length) := Lib.hid (by omega)
 have hlong' : ¬ (3000000 : Int) < (s.size : Int) := by omega
 clear hlong hsl0
 go_wp2
 go_loopw [0, 5, 6] (fun v0 v5 v6 wr => ∃ (tx : ByteArray) (acc : List Ev) (n : Nat), v0 = .string tx ∧ v6 = .int .i64 ((n : Int) + 1) ∧ Hid (acc.length = n) ∧ wr.ownsRow w.heap.size 34 8 v5 n (acc.flatMap evL) ∧ Hid (rdEs 1 (cutL 10 s.data.toList) = apE acc (rdEs (n + 1) (cutL 10 tx.data.toList))) ∧ Hid (∀ m ∈ acc, m.ok) ∧ n + tx.size ≤ s.size ∧ Below w.heap.size w wr) (fun v0 _ _ _ => szOf v0)
 case atStart => exact ⟨s, [], 0, rfl, rfl, rfl, World.ownsRow_nil _ _ _ _, Lib.hid (apE_nil _).symm, Lib.hid (fun m hm => by cases hm), by omega, Below.refl _ _⟩
 case round =>
  obtain ⟨tx, acc, n, rfl, rfl, HLN, hown, HR, HOK, hsz, hb⟩ := hrel
  have hn20 : n ≤ 3000000 := by have := HS.out; omega
  have Hn20 := Lib.hid hn20
  by_cases h0 : tx.size = 0
  ·have hnil := nil_of h0
   have hem : (tx.toList == []) = true := by rw [ByteArray.toList_eq, hnil]; rfl
   have hem3 : tx.toList = [] := by rw [ByteArray.toList_eq, hnil]
   have HA : Hid (∀ x f, LogL acc x f → LogR s.data.toList x 0 f) := Lib.hid (fun x f h => logR_all HL0.out (by rw [HR.out, hnil, rdEs_end]; show Sum.inl (acc ++ []) = _; rw [List.append_nil]) h)
   obtain rfl : acc.length = n := HLN.out
   have hsl := Sl.ofOwn hown
   obtain ⟨a5, c5, rfl, -⟩ := id hsl
   clear hnil hsl HR HLN h0 hsz
   go_wp2
   go_loopw [49] (fun i wr => ∃ k : Nat, k ≤ acc.length ∧ i = .int .i64 k ∧ wr.ownsRow w.heap.size 34 8 (.slice a5 acc.length c5) acc.length (acc.flatMap evL) ∧ Hid (faultsE acc = faultsE (acc.drop k)) ∧ Below w.heap.size w wr) (fun i _ => acc.length - (intOf i).toNat)
   case atStart => exact ⟨0, by omega, rfl, hown, Lib.hid rfl, hb⟩
   case round =>
    clear hown hb
    obtain ⟨k, hk, rfl, hown, HK, hbr⟩ := hrel
    by_cases hlt : k < acc.length
    ·have hgk := List.getElem?_eq_getElem hlt
     have hmo := HOK.out _ (List.getElem_mem hlt)
     generalize acc[k] = m at hgk hmo
     have HST := Lib.hid (faults_stepE hgk)
     obtain ⟨b, o, rfl, e0, e1, e2, e3, e4, e5, e6, e7⟩ := event_cells (Sl.ofOwn hown) hgk
     have hk0 : (0 : Int) ≤ (k : Int) := Int.natCast_nonneg _
     have hk1 : (k : Int) < (acc.length : Int) := by omega
     have HMO := Lib.hid hmo
     clear hgk hmo
     go_upto_region 16 with (fail)
     clear e0 e1 e2 e3 e4 e5 e6 e7
     refine wp_box1 fun X hszX hbX hM => ?_
     obtain ⟨_, hM2⟩ := id hM
     have hown2 := ownsRow_ext hown hbX
     clear hM hown hszX
     go_wp2_with fail
     refine (event_Check m HMO.out X).mono ?_
     rintro e w2 ⟨rfl, hb2⟩
     have hown3 := ownsRow_ext hown2 hb2
     have hb3 := ext_trans hbr (ext_trans hbX hb2)
     obtain ⟨f, hf⟩ : ∃ z, checkE m = z := ⟨_, rfl⟩
     rw [hf] at HST ⊢
     clear hM2 hown2 hbr hbX hb2 hf
     by_cases hf0 : f = 0
     ·subst hf0
      have HK2 : Hid (faultsE acc = faultsE (acc.drop (k + 1))) := Lib.hid (HK.out.trans (HST.out.trans (if_pos rfl)))
      clear HK HST
      go_wp2
      go_roundw
      case rel => exact ⟨k + 1, by omega, by go_num, hown3, HK2, hb3⟩
      case measure => simp [intOf]; omega
     ·have hne : (f != 0) = true := by simpa using hf0
      have HFA : Hid (faultsE acc = f) := Lib.hid (HK.out.trans (HST.out.trans (if_neg hf0)))
      have HN := Lib.hid (HA.out _ _ (logL_fault (by rw [HFA.out]; exact hf0)))
      rw [HFA.out] at HN
      clear HK HST hf0 hown3
      go_wp2
      exact bodyPost_ret (v := .tuple #[.slice none 0 0, .int .i64 0, .int .i64 f]) (by simp [results, Tryd.results7, go_sem]) rfl (rdG_bad HN.out hb3)
    ·have HF0 : Hid (faultsE acc = 0) := Lib.hid (HK.out.trans (by rw [List.drop_eq_nil_of_le (by omega)]; rfl))
     obtain ⟨wy, hwy⟩ : ∃ z, z = wr := ⟨_, rfl⟩
     subst hwy
     have hown5 := hown
     have hby := hbr
     clear hown hbr HK
     go_wp2_with fail
     refine (unite_at w.heap.size acc _ wy hby.size hown5 (by have := Hn20.out; omega)).mono ?_
     rintro e w3 hU
     have HU := Lib.hid hU
     clear hU
     rcases HU.out with ⟨C, a6, c6, rfl, hs6, hasc, hmem, hb6⟩ | ⟨rfl, hcl, hb6⟩
     ·have hmem2 : ∀ x, x ∈ C ↔ x ∈ acc := hmem
      have HASC := Lib.hid hasc
      have HMEM := Lib.hid hmem2
      have HS6 := Lib.hid hs6
      have hb7 := hby.trans (hb6.mono (Nat.le_refl _))
      clear hasc hmem hmem2 hs6 hb6 hby hown5 HU
      go_wp2_with fail
      refine (event_CheckLog C (fun e he => HOK.out e ((HMEM.out e).1 he)) a6 c6 w3 HS6.out).mono ?_
      rintro e w4 ⟨rfl, hb8⟩
      have hb9 := ext_trans hb7 hb8
      have HS7 := Lib.hid (HS6.out.ext hb8)
      obtain ⟨f, hf⟩ : ∃ z, checkL C = z := ⟨_, rfl⟩
      have HF := Lib.hid hf
      rw [hf]
      clear hf hb7 hb8 HS6
      by_cases hf0 : f = 0
      ·subst hf0
       have HN := Lib.hid (HA.out _ _ (logL_yes HF0.out HASC.out HMEM.out HF.out))
       go_wp2
       exact bodyPost_ret (v := .tuple #[.slice a6 C.length c6, .int .i64 0, .int .i64 0]) (by simp [results, Tryd.results7, go_sem]) rfl (⟨C, a6, c6, 0, 0, rfl, HS7.out, fun e he => HOK.out e ((HMEM.out e).1 he), HN.out, hb9⟩)
      ·have hne : (f != 0) = true := by simpa using hf0
       have HN := Lib.hid (HA.out _ _ (logL_no HF0.out HASC.out HMEM.out (by rw [HF.out]; exact hf0)))
       rw [HF.out] at HN
       clear hf0
       go_wp2
       exact bodyPost_ret (v := .tuple #[.slice none 0 0, .int .i64 0, .int .i64 f]) (by simp [results, Tryd.results7, go_sem]) rfl (rdG_bad HN.out hb9)
     ·have HN := Lib.hid (HA.out _ _ (logL_clash HF0.out hcl))
      have hb7 := hby.trans (hb6.mono (Nat.le_refl _))
      clear hcl hb6 hby hown5 HU
      go_wp2
      exact bodyPost_ret (v := .tuple #[.slice none 0 0, .int .i64 0, .int .i64 13]) (by simp [results, Tryd.results7, go_sem]) rfl (rdG_bad HN.out hb7)
  ·have hem := hem_of h0
   have hem3 : ¬ (tx.toList = []) := fun h => by rw [h] at hem; cases hem
   have hne : tx.data.toList ≠ [] := fun h => hem3 (by rw [ByteArray.toList_eq]; exact h)
   obtain ⟨hd, tl, hc⟩ : ∃ hd tl, cut1 10 tx.data.toList = (hd, tl) := ⟨_, _, rfl⟩
   have HC := Lib.hid hc
   have HNE := Lib.hid hne
   have hlen := cut1_size hc
   rw [show tx.data.toList.length = tx.size from Array.length_toList] at hlen
   have HLEN := Lib.hid hlen
   clear hne hlen h0
   go_wp2_with fail
   refine (cut_at tx 10 (by have := HS.out; omega) wr (Hhm.out.ext hb)).mono ?_
   rintro e w1 ⟨rfl, hb1⟩
   rw [hc]
   have hown1 := ownsRow_ext hown hb1
   clear hc hown
   go_wp2_with fail
   refine (evread_at (stB hd) (by rw [stB_size]; have := HS.out; have := HLEN.out.1; omega) w1 (Hhe.out.ext (ext_trans hb hb1)) (Hht.out.ext (ext_trans hb hb1)) (Hhm.out.ext (ext_trans hb hb1))).mono ?_
   rintro e w2 ⟨x, b, rfl, hx, hcs, hb2⟩
   have HX := Lib.hid hx
   have HCS : Hid ((readO hd = some x ∧ b = true) ∨ (readO hd = none ∧ b = false)) := Lib.hid hcs
   have hown2 := ownsRow_ext hown1 hb2
   have hb4 := ext_trans hb (ext_trans hb1 hb2)
   clear hx hcs hown1 hb1 hb2 hb
   go_upto_region 9 with (fail)
   refine wp_box1 fun X hszX hbX hA => ?_
   have hown3 := ownsRow_ext hown2 hbX
   have hb5 := ext_trans hb4 hbX
   have hsz5 := hb5.size
   clear hown2 hb4 hbX hszX
   cases b
   ·have HN : Hid (LogR s.data.toList [] ((n : Int) + 1) 10) := Lib.hid (logR_line (i := n + 1) HL0.out (by
     rw [HR.out]
     have hq : readO hd = none := by rcases HCS.out with ⟨_, h⟩ | ⟨h, _⟩; cases h; exact h
     cases tl with
     | none => rw [rdEs_last HNE.out HC.out]; rfl
     | some r => rw [rdEs_bad HC.out hq]; rfl))
    clear HR HCS hown3
    go_wp2
    exact bodyPost_ret (v := .tuple #[.slice none 0 0, .int .i64 ((n : Int) + 1), .int .i64 10]) (by simp [results, Tryd.results7, go_sem]) rfl (rdG_bad HN.out hb5)
   ·have HQ : Hid (readO hd = some x) := Lib.hid (by rcases HCS.out with ⟨h, _⟩ | ⟨_, h⟩; exact h; cases h)
    clear HCS
    cases tl with
    | none =>
     have HN : Hid (LogR s.data.toList [] ((n : Int) + 1) 10) := Lib.hid (logR_line (i := n + 1) HL0.out (by rw [HR.out, rdEs_last HNE.out HC.out]; rfl))
     clear HR hown3
     simp only [Option.getD_none, Option.isSome_none]
     go_wp2
     exact bodyPost_ret (v := .tuple #[.slice none 0 0, .int .i64 ((n : Int) + 1), .int .i64 10]) (by simp [results, Tryd.results7, go_sem]) rfl (rdG_bad HN.out hb5)
    | some r =>
     have HR2 : Hid (rdEs 1 (cutL 10 s.data.toList) = apE (acc ++ [x]) (rdEs (n + 1 + 1) (cutL 10 r))) := Lib.hid (by rw [HR.out, rdEs_more HC.out HQ.out, apE_more])
     have hr : (stB r).size < tx.size := by rw [stB_size]; exact HLEN.out.2 r rfl
     clear HR HQ HC
     simp only [Option.getD_some, Option.isSome_some]
     obtain ⟨_, hA2⟩ := id hA
     clear hA
     go_wp2_with (at_builtin; refine wpList_append_sl rfl _ _ 22 rfl w.heap.size 34 Tryd.underlying22 HP.out rfl (by decide) rfl (ownsRow_ext hown3 (ext_alloc _ _)) rfl (Sl.new X _ _ 1 1 (by omega) (by decide)) rfl (by intro u hu; simp at hu; rcases hu with rfl | rfl | rfl | rfl | rfl | rfl | rfl | rfl <;> rfl) (by unfold maxLen; omega) (by omega) (by simp; omega) ?_; intro v7 w7 hown7 hg7 _)
     have hL : acc.flatMap evL ++ evL x = (acc ++ [x]).flatMap evL := by rw [List.flatMap_append]; simp
     have hown8 : w7.ownsRow w.heap.size 34 8 v7 (n + 1) ((acc ++ [x]).flatMap evL) := by rw [← hL]; exact hown7
     have hb8 : Below w.heap.size w w7 := (ext_trans hb5 (ext_alloc _ _)).grown hg7 (by simp; omega) (fun q hq => (hown3.lt q hq).1)
     have HLN2 : Hid ((acc ++ [x]).length = n + 1) := Lib.hid (by rw [List.length_append, HLN.out]; rfl)
     have HOK2 : Hid (∀ m ∈ acc ++ [x], m.ok) := Lib.hid (fun m hm => by
      rcases List.mem_append.1 hm with hm | hm
      ·exact HOK.out m hm
      ·obtain rfl := List.mem_singleton.1 hm; exact HX.out)
     clear hown7 hg7 hown3 hb5 hL hA2
     go_wp2
     go_roundw
     case rel => exact ⟨stB r, acc ++ [x], n + 1, rfl, by go_num, HLN2, hown8, HR2, HOK2, by omega, hb8⟩
     case measure => exact hr
end Tx
end Go.Proofs.YtbgbfjfboaajbaaDoor
namespace Go.Proofs.YtbgbfjfboaajbaaDoor
open Go.RowKit
namespace Tx
open _root_.Go.Proofs.YtbgbfjfboaajbaaDoor.Nm
open _root_.Go.Proofs.YtbgbfjfboaajbaaDoor.Nt (RH RH.cell RH.box RH.lt RH.new RH.ext RH.fre RH.set RH.other)
theorem stB_app (l r : List UInt8) : stB l ++ stB r = stB (l ++ r) := by
 apply ByteArray.ext
 simp [stB]
theorem stL (s : ByteArray) : s = stB s.data.toList := (stB_self s).symm
theorem show_mark (sh : ByteArray) (nu ti : Int) (ke na : ByteArray) (ar nn : Int) : sh ++ ⟨#[32]⟩ ++ stB (itoaS nu) ++ ⟨#[32]⟩ ++ stB (itoaS ti) ++ ⟨#[32, 109, 97, 114, 107]⟩ = stB (showE ⟨sh, nu, 3, ti, ke, na, ar, nn⟩) := by
 rw [stL sh, show (⟨#[32]⟩ : ByteArray) = stB [32] from rfl, show (⟨#[32, 109, 97, 114, 107]⟩ : ByteArray) = stB (32 :: markL) from rfl]
 simp only [stB_app]
 congr 1
 simp [showE, wordsE, joinL, stB]
theorem show_exp (sh : ByteArray) (nu ti : Int) (ke na : ByteArray) (ar nn : Int) : sh ++ ⟨#[32]⟩ ++ stB (itoaS nu) ++ ⟨#[32]⟩ ++ stB (itoaS ti) ++ ⟨#[32, 101, 120, 112, 111, 115, 117, 114, 101, 32]⟩ ++ ke ++ ⟨#[32]⟩ ++ na ++ ⟨#[32]⟩ ++ stB (itoaS ar) = stB (showE ⟨sh, nu, 1, ti, ke, na, ar, nn⟩) := by
 rw [stL sh, stL ke, stL na, show (⟨#[32]⟩ : ByteArray) = stB [32] from rfl, show (⟨#[32, 101, 120, 112, 111, 115, 117, 114, 101, 32]⟩ : ByteArray) = stB (32 :: (expL ++ [32])) from rfl]
 simp only [stB_app]
 congr 1
 simp [showE, wordsE, joinL, stB]
theorem show_out (sh : ByteArray) (nu ti : Int) (ke na : ByteArray) (ar nn : Int) : sh ++ ⟨#[32]⟩ ++ stB (itoaS nu) ++ ⟨#[32]⟩ ++ stB (itoaS ti) ++ ⟨#[32, 111, 117, 116, 99, 111, 109, 101, 32]⟩ ++ ke ++ ⟨#[32]⟩ ++ na ++ ⟨#[32]⟩ ++ stB (itoaS nn) = stB (showE ⟨sh, nu, 2, ti, ke, na, ar, nn⟩) := by
 rw [stL sh, stL ke, stL na, show (⟨#[32]⟩ : ByteArray) = stB [32] from rfl, show (⟨#[32, 111, 117, 116, 99, 111, 109, 101, 32]⟩ : ByteArray) = stB (32 :: (outL ++ [32])) from rfl]
 simp only [stB_app]
 congr 1
 simp [showE, wordsE, joinL, stB]
set_option maxRecDepth 100000 in
set_option maxHeartbeats 16000000 in
theorem evshow_at (e : Ev) (h : RightE e) (w : World) (ht : Tb w) : Calls Tryd.prog 12 #[.agg (evC e)] w fun r w' => r = .returned (.string (stB (showE e))) ∧ Below w.heap.size w w' := by
 have HT0 := Lib.hid ht
 obtain ⟨sh, nu, ki, ti, ke, na, ar, nn⟩ := e
 obtain ⟨g1, g2, g3, g4⟩ := h
 simp only at g1 g2 g3 g4
 have hz1 : sh.size ≤ 40 := by
  have h9 : sh.data.toList.length = sh.size := Array.length_toList
  have := (name_words g1).2.2; omega
 have HK := Lib.hid g4
 obtain ⟨sn, hqsn⟩ : ∃ z, stB (itoaS nu) = z := ⟨_, rfl⟩
 have hzsn : sn.size ≤ 14 := by rw [← hqsn, stB_size]; exact itoaS_length (by omega)
 have HIsn := Lib.hid (fun W9 t9 => (by have h9 := itoaI_at (nu) (by omega) (by omega) W9 t9; rw [hqsn] at h9; exact h9 : Calls Tryd.prog 24 #[.int .i64 (nu)] W9 fun e w' => e = .returned (.string sn) ∧ Below W9.heap.size W9 w'))
 have HQsn := Lib.hid hqsn
 clear hqsn
 obtain ⟨st, hqst⟩ : ∃ z, stB (itoaS ti) = z := ⟨_, rfl⟩
 have hzst : st.size ≤ 14 := by rw [← hqst, stB_size]; exact itoaS_length (by omega)
 have HIst := Lib.hid (fun W9 t9 => (by have h9 := itoaI_at (ti) (by omega) (by omega) W9 t9; rw [hqst] at h9; exact h9 : Calls Tryd.prog 24 #[.int .i64 (ti)] W9 fun e w' => e = .returned (.string st) ∧ Below W9.heap.size W9 w'))
 have HQst := Lib.hid hqst
 clear hqst
 clear ht g1 g2 g3 g4
 go_enter Tryd.func12, Tryd.ntmps12
 go_upto_region 1 with (fail)
 refine wp_vr1 fun w1' hbz hR0 => ?_
 have HR_v : Hid (RH w1' w.heap.size #[.string sh, .int .i64 (nu), .int .i64 (ki), .int .i64 (ti), .string ke, .string na, .int .i64 (ar), .int .i64 (nn)] 34) := Lib.hid hR0
 have HW := Lib.hid hbz
 clear hbz hR0
 have c_v_0 : w1'.cell? ⟨w.heap.size, 0, none⟩ = some (.string sh) := (HR_v.out.cell 0).trans rfl
 have c_v_1 : w1'.cell? ⟨w.heap.size, 1, none⟩ = some (.int .i64 (nu)) := (HR_v.out.cell 1).trans rfl
 have c_v_2 : w1'.cell? ⟨w.heap.size, 2, none⟩ = some (.int .i64 (ki)) := (HR_v.out.cell 2).trans rfl
 have c_v_3 : w1'.cell? ⟨w.heap.size, 3, none⟩ = some (.int .i64 (ti)) := (HR_v.out.cell 3).trans rfl
 have c_v_4 : w1'.cell? ⟨w.heap.size, 4, none⟩ = some (.string ke) := (HR_v.out.cell 4).trans rfl
 have c_v_5 : w1'.cell? ⟨w.heap.size, 5, none⟩ = some (.string na) := (HR_v.out.cell 5).trans rfl
 have c_v_6 : w1'.cell? ⟨w.heap.size, 6, none⟩ = some (.int .i64 (ar)) := (HR_v.out.cell 6).trans rfl
 have c_v_7 : w1'.cell? ⟨w.heap.size, 7, none⟩ = some (.int .i64 (nn)) := (HR_v.out.cell 7).trans rfl
 refine Grow.wp_region_grow 12 [TP.eq (.pointer (some ⟨w.heap.size, 0, none⟩)), TP.eq (.string sh), TP.eq (.string (sh ++ (⟨#[32]⟩ : ByteArray))), TP.eq (.pointer (some ⟨w.heap.size, 1, none⟩)), TP.eq (.int .i64 (nu)), TP.eq (.string sn), TP.eq (.string (sh ++ (⟨#[32]⟩ : ByteArray) ++ sn)), TP.eq (.string (sh ++ (⟨#[32]⟩ : ByteArray) ++ sn ++ (⟨#[32]⟩ : ByteArray))), TP.eq (.pointer (some ⟨w.heap.size, 3, none⟩)), TP.eq (.int .i64 (ti)), TP.eq (.string st), TP.eq (.string (sh ++ (⟨#[32]⟩ : ByteArray) ++ sn ++ (⟨#[32]⟩ : ByteArray) ++ st))] [[], [0], [1], [], [3], [4], [2, 5], [6], [], [8], [9], [7, 10]] (by kernel_rfl) (by kernel_rfl) ⟨?o0g, ?o1g, ?o2g, ?o3g, ?o4g, ?o5g, ?o6g, ?o7g, ?o8g, ?o9g, ?o10g, ?o11g, trivial⟩ ?_
 case o0g | o3g | o8g =>
  intro w' hb
  show wpList _ _ _ _ _ _
  go_wp2
  exact ⟨rfl, Below.refl _ _, rfl⟩
 case o1g =>
  intro w' hb v1 hv1
  obtain rfl : v1 = _ := hv1
  have c_v_0' := zzc hb c_v_0
  show wpList _ _ _ _ _ _
  simp only [Grow.dstOf, zz1, zz3, zz4, Act.put, zz5, zz6, zz7]
  go_wp2
  exact ⟨rfl, Below.refl _ _, rfl⟩
 case o2g | o7g =>
  intro w' hb v1 hv1
  obtain rfl : v1 = _ := hv1
  show wpList _ _ _ _ _ _
  simp only [Grow.dstOf, zz1, zz2, zz3, zz4, Act.put, zz5, zz6, zz7]
  go_wp2
  exact ⟨rfl, Below.refl _ _, rfl⟩
 case o4g | o9g =>
  intro w' hb v1 hv1
  obtain rfl : v1 = _ := hv1
  have c_v_1' := zzc hb c_v_1
  have c_v_3' := zzc hb c_v_3
  show wpList _ _ _ _ _ _
  simp only [Grow.dstOf, zz1, zz2, zz3, zz4, Act.put, zz5, zz6, zz7]
  go_wp2
  exact ⟨rfl, Below.refl _ _, rfl⟩
 case o5g =>
  intro w' hb v1 hv1
  obtain rfl : v1 = _ := hv1
  show wpList _ _ _ _ _ _
  simp only [Grow.dstOf, zz1, zz2, zz3, zz4, Act.put, zz5, zz6, zz7]
  go_wp2_with fail
  refine (HIsn.out w' (HT0.out.ext (ext_trans HW.out hb))).mono ?_
  rintro e wz ⟨rfl, hbz⟩
  go_wp2
  exact ⟨rfl, hbz, rfl⟩
 case o6g | o11g =>
  intro w' hb v1 hv1 v2 hv2
  obtain rfl : v1 = _ := hv1
  obtain rfl : v2 = _ := hv2
  show wpList _ _ _ _ _ _
  simp only [Grow.dstOf, zz1, zz2, zz3, zz4, Act.put, zz5, zz6, zz7]
  go_wp2
  exact ⟨rfl, Below.refl _ _, rfl⟩
 case o10g =>
  intro w' hb v1 hv1
  obtain rfl : v1 = _ := hv1
  show wpList _ _ _ _ _ _
  simp only [Grow.dstOf, zz1, zz2, zz3, zz4, Act.put, zz5, zz6, zz7]
  go_wp2_with fail
  refine (HIst.out w' (HT0.out.ext (ext_trans HW.out hb))).mono ?_
  rintro e wz ⟨rfl, hbz⟩
  go_wp2
  exact ⟨rfl, hbz, rfl⟩
 intro w2' hbz u0 hu0 u1 hu1 u2 hu2 u3 hu3 u4 hu4 u5 hu5 u6 hu6 u7 hu7 u8 hu8 u9 hu9 u10 hu10 u11 hu11
 obtain rfl : u11 = _ := hu11
 clear hu0 hu1 hu2 hu3 hu4 hu5 hu6 hu7 hu8 hu9 hu10
 replace HR_v := Lib.hid (HR_v.out.ext hbz)
 replace HW := Lib.hid (ext_trans HW.out hbz)
 clear c_v_0 c_v_1 c_v_2 c_v_3 c_v_4 c_v_5 c_v_6 c_v_7
 clear hbz
 show wpList _ _ _ _ _ _
 simp only [Act.put, zz5, zz6, zz7]
 obtain ⟨t0, ht0⟩ : ∃ z, sh ++ (⟨#[32]⟩ : ByteArray) ++ sn ++ (⟨#[32]⟩ : ByteArray) ++ st = z := ⟨_, rfl⟩
 have hzt : t0.size ≤ 70 := by
  rw [← ht0]
  simp only [ByteArray.size_append]
  have h9 : (⟨#[32]⟩ : ByteArray).size = 1 := rfl
  omega
 rw [ht0]
 have HT := Lib.hid ht0
 clear ht0 HIsn HIst hzsn hzst hz1
 rcases HK.out with ⟨rfl, -⟩ | ⟨rfl, g5, g6, g7, g8⟩ | ⟨rfl, g5, g6, g7, g8⟩
 ·clear HK
  have c_v_0 : w2'.cell? ⟨w.heap.size, 0, none⟩ = some (.string sh) := (HR_v.out.cell 0).trans rfl
  have c_v_1 : w2'.cell? ⟨w.heap.size, 1, none⟩ = some (.int .i64 (nu)) := (HR_v.out.cell 1).trans rfl
  have c_v_2 : w2'.cell? ⟨w.heap.size, 2, none⟩ = some (.int .i64 (3)) := (HR_v.out.cell 2).trans rfl
  have c_v_3 : w2'.cell? ⟨w.heap.size, 3, none⟩ = some (.int .i64 (ti)) := (HR_v.out.cell 3).trans rfl
  have c_v_4 : w2'.cell? ⟨w.heap.size, 4, none⟩ = some (.string ke) := (HR_v.out.cell 4).trans rfl
  have c_v_5 : w2'.cell? ⟨w.heap.size, 5, none⟩ = some (.string na) := (HR_v.out.cell 5).trans rfl
  have c_v_6 : w2'.cell? ⟨w.heap.size, 6, none⟩ = some (.int .i64 (ar)) := (HR_v.out.cell 6).trans rfl
  have c_v_7 : w2'.cell? ⟨w.heap.size, 7, none⟩ = some (.int .i64 (nn)) := (HR_v.out.cell 7).trans rfl
  have HN := Lib.hid (by have h9 := show_mark sh nu ti ke na ar nn; rw [HQsn.out, HQst.out, HT.out] at h9; exact h9 : t0 ++ (⟨#[32, 109, 97, 114, 107]⟩ : ByteArray) = stB (showE ⟨sh, nu, 3, ti, ke, na, ar, nn⟩))
  go_wp2
  exact bodyPost_ret (v := .string (t0 ++ ⟨#[32, 109, 97, 114, 107]⟩)) (by simp [results, Tryd.results12, go_sem]) rfl ⟨by rw [HN.out], HW.out⟩
 ·have hz5 : ke.size ≤ 100 := by
   have h9 : ke.data.toList.length = ke.size := Array.length_toList
   have := (key_seen g5).2.2; omega
  have hz6 : na.size ≤ 40 := by
   have h9 : na.data.toList.length = na.size := Array.length_toList
   have := (name_words g6).2.2; omega
  obtain ⟨sx, hqsx⟩ : ∃ z, stB (itoaS ar) = z := ⟨_, rfl⟩
  have hzsx : sx.size ≤ 14 := by rw [← hqsx, stB_size]; exact itoaS_length (by omega)
  have HIsx := Lib.hid (fun W9 t9 => (by have h9 := itoaI_at (ar) (by omega) (by omega) W9 t9; rw [hqsx] at h9; exact h9 : Calls Tryd.prog 24 #[.int .i64 (ar)] W9 fun e w' => e = .returned (.string sx) ∧ Below W9.heap.size W9 w'))
  have HQsx := Lib.hid hqsx
  clear hqsx
  have HN := Lib.hid (by have h9 := show_exp sh nu ti ke na ar nn; rw [HQsn.out, HQst.out, HT.out, HQsx.out] at h9; exact h9 : t0 ++ (⟨#[32, 101, 120, 112, 111, 115, 117, 114, 101, 32]⟩ : ByteArray) ++ ke ++ (⟨#[32]⟩ : ByteArray) ++ na ++ (⟨#[32]⟩ : ByteArray) ++ sx = stB (showE ⟨sh, nu, 1, ti, ke, na, ar, nn⟩))
  clear g5 g6 g7 g8 HK
  have c_v_0 : w2'.cell? ⟨w.heap.size, 0, none⟩ = some (.string sh) := (HR_v.out.cell 0).trans rfl
  have c_v_1 : w2'.cell? ⟨w.heap.size, 1, none⟩ = some (.int .i64 (nu)) := (HR_v.out.cell 1).trans rfl
  have c_v_2 : w2'.cell? ⟨w.heap.size, 2, none⟩ = some (.int .i64 (1)) := (HR_v.out.cell 2).trans rfl
  have c_v_3 : w2'.cell? ⟨w.heap.size, 3, none⟩ = some (.int .i64 (ti)) := (HR_v.out.cell 3).trans rfl
  have c_v_4 : w2'.cell? ⟨w.heap.size, 4, none⟩ = some (.string ke) := (HR_v.out.cell 4).trans rfl
  have c_v_5 : w2'.cell? ⟨w.heap.size, 5, none⟩ = some (.string na) := (HR_v.out.cell 5).trans rfl
  have c_v_6 : w2'.cell? ⟨w.heap.size, 6, none⟩ = some (.int .i64 (ar)) := (HR_v.out.cell 6).trans rfl
  have c_v_7 : w2'.cell? ⟨w.heap.size, 7, none⟩ = some (.int .i64 (nn)) := (HR_v.out.cell 7).trans rfl
  go_upto_region 4 with (fail)
  refine Grow.wp_region_grow 14 [TP.eq (.string (t0)), TP.eq (.string (t0 ++ (⟨#[32, 101, 120, 112, 111, 115, 117, 114, 101, 32]⟩ : ByteArray))), TP.eq (.pointer (some ⟨w.heap.size, 4, none⟩)), TP.eq (.string ke), TP.eq (.string (t0 ++ (⟨#[32, 101, 120, 112, 111, 115, 117, 114, 101, 32]⟩ : ByteArray) ++ ke)), TP.eq (.string (t0 ++ (⟨#[32, 101, 120, 112, 111, 115, 117, 114, 101, 32]⟩ : ByteArray) ++ ke ++ (⟨#[32]⟩ : ByteArray))), TP.eq (.pointer (some ⟨w.heap.size, 5, none⟩)), TP.eq (.string na), TP.eq (.string (t0 ++ (⟨#[32, 101, 120, 112, 111, 115, 117, 114, 101, 32]⟩ : ByteArray) ++ ke ++ (⟨#[32]⟩ : ByteArray) ++ na)), TP.eq (.string (t0 ++ (⟨#[32, 101, 120, 112, 111, 115, 117, 114, 101, 32]⟩ : ByteArray) ++ ke ++ (⟨#[32]⟩ : ByteArray) ++ na ++ (⟨#[32]⟩ : ByteArray))), TP.eq (.pointer (some ⟨w.heap.size, 6, none⟩)), TP.eq (.int .i64 (ar)), TP.eq (.string sx), TP.eq (.string (t0 ++ (⟨#[32, 101, 120, 112, 111, 115, 117, 114, 101, 32]⟩ : ByteArray) ++ ke ++ (⟨#[32]⟩ : ByteArray) ++ na ++ (⟨#[32]⟩ : ByteArray) ++ sx))] [[], [0], [], [2], [1, 3], [4], [], [6], [5, 7], [8], [], [10], [11], [9, 12]] (by kernel_rfl) (by kernel_rfl) ⟨?o0g1, ?o1g1, ?o2g1, ?o3g1, ?o4g1, ?o5g1, ?o6g1, ?o7g1, ?o8g1, ?o9g1, ?o10g1, ?o11g1, ?o12g1, ?o13g1, trivial⟩ ?_
  case o0g1 | o2g1 | o6g1 | o10g1 =>
   intro w' hb
   show wpList _ _ _ _ _ _
   go_wp2
   exact ⟨rfl, Below.refl _ _, rfl⟩
  case o1g1 =>
   intro w' hb v1 hv1
   obtain rfl : v1 = _ := hv1
   show wpList _ _ _ _ _ _
   simp only [Grow.dstOf, zz1, zz3, zz4, Act.put, zz5, zz6, zz7]
   go_wp2
   exact ⟨rfl, Below.refl _ _, rfl⟩
  case o3g1 | o7g1 | o11g1 =>
   intro w' hb v1 hv1
   obtain rfl : v1 = _ := hv1
   have c_v_4' := zzc hb c_v_4
   have c_v_5' := zzc hb c_v_5
   have c_v_6' := zzc hb c_v_6
   show wpList _ _ _ _ _ _
   simp only [Grow.dstOf, zz1, zz2, zz3, zz4, Act.put, zz5, zz6, zz7]
   go_wp2
   exact ⟨rfl, Below.refl _ _, rfl⟩
  case o4g1 | o8g1 | o13g1 =>
   intro w' hb v1 hv1 v2 hv2
   obtain rfl : v1 = _ := hv1
   obtain rfl : v2 = _ := hv2
   show wpList _ _ _ _ _ _
   simp only [Grow.dstOf, zz1, zz2, zz3, zz4, Act.put, zz5, zz6, zz7]
   go_wp2
   exact ⟨rfl, Below.refl _ _, rfl⟩
  case o5g1 | o9g1 =>
   intro w' hb v1 hv1
   obtain rfl : v1 = _ := hv1
   show wpList _ _ _ _ _ _
   simp only [Grow.dstOf, zz1, zz2, zz3, zz4, Act.put, zz5, zz6, zz7]
   go_wp2
   exact ⟨rfl, Below.refl _ _, rfl⟩
  case o12g1 =>
   intro w' hb v1 hv1
   obtain rfl : v1 = _ := hv1
   show wpList _ _ _ _ _ _
   simp only [Grow.dstOf, zz1, zz2, zz3, zz4, Act.put, zz5, zz6, zz7]
   go_wp2_with fail
   refine (HIsx.out w' (HT0.out.ext (ext_trans HW.out hb))).mono ?_
   rintro e wz ⟨rfl, hbz⟩
   go_wp2
   exact ⟨rfl, hbz, rfl⟩
  intro w3' hbz u0 hu0 u1 hu1 u2 hu2 u3 hu3 u4 hu4 u5 hu5 u6 hu6 u7 hu7 u8 hu8 u9 hu9 u10 hu10 u11 hu11 u12 hu12 u13 hu13
  obtain rfl : u13 = _ := hu13
  clear hu0 hu1 hu2 hu3 hu4 hu5 hu6 hu7 hu8 hu9 hu10 hu11 hu12
  replace HR_v := Lib.hid (HR_v.out.ext hbz)
  replace HW := Lib.hid (ext_trans HW.out hbz)
  clear c_v_0 c_v_1 c_v_2 c_v_3 c_v_4 c_v_5 c_v_6 c_v_7
  clear hbz
  show wpList _ _ _ _ _ _
  simp only [Act.put, zz5, zz6, zz7]
  obtain ⟨sz, hsz⟩ : ∃ z, t0 ++ (⟨#[32, 101, 120, 112, 111, 115, 117, 114, 101, 32]⟩ : ByteArray) ++ ke ++ (⟨#[32]⟩ : ByteArray) ++ na ++ (⟨#[32]⟩ : ByteArray) ++ sx = z := ⟨_, rfl⟩
  rw [hsz]
  have HS := Lib.hid hsz
  clear hsz
  go_wp2
  exact bodyPost_ret (v := .string sz) (by simp [results, Tryd.results12, go_sem]) rfl ⟨by rw [← HS.out, HN.out], HW.out⟩
 ·have hz5 : ke.size ≤ 100 := by
   have h9 : ke.data.toList.length = ke.size := Array.length_toList
   have := (key_seen g5).2.2; omega
  have hz6 : na.size ≤ 40 := by
   have h9 : na.data.toList.length = na.size := Array.length_toList
   have := (name_words g6).2.2; omega
  obtain ⟨sx, hqsx⟩ : ∃ z, stB (itoaS nn) = z := ⟨_, rfl⟩
  have hzsx : sx.size ≤ 14 := by rw [← hqsx, stB_size]; exact itoaS_length (by omega)
  have HIsx := Lib.hid (fun W9 t9 => (by have h9 := itoaI_at (nn) (by omega) (by omega) W9 t9; rw [hqsx] at h9; exact h9 : Calls Tryd.prog 24 #[.int .i64 (nn)] W9 fun e w' => e = .returned (.string sx) ∧ Below W9.heap.size W9 w'))
  have HQsx := Lib.hid hqsx
  clear hqsx
  have HN := Lib.hid (by have h9 := show_out sh nu ti ke na ar nn; rw [HQsn.out, HQst.out, HT.out, HQsx.out] at h9; exact h9 : t0 ++ (⟨#[32, 111, 117, 116, 99, 111, 109, 101, 32]⟩ : ByteArray) ++ ke ++ (⟨#[32]⟩ : ByteArray) ++ na ++ (⟨#[32]⟩ : ByteArray) ++ sx = stB (showE ⟨sh, nu, 2, ti, ke, na, ar, nn⟩))
  clear g5 g6 g7 g8 HK
  have c_v_0 : w2'.cell? ⟨w.heap.size, 0, none⟩ = some (.string sh) := (HR_v.out.cell 0).trans rfl
  have c_v_1 : w2'.cell? ⟨w.heap.size, 1, none⟩ = some (.int .i64 (nu)) := (HR_v.out.cell 1).trans rfl
  have c_v_2 : w2'.cell? ⟨w.heap.size, 2, none⟩ = some (.int .i64 (2)) := (HR_v.out.cell 2).trans rfl
  have c_v_3 : w2'.cell? ⟨w.heap.size, 3, none⟩ = some (.int .i64 (ti)) := (HR_v.out.cell 3).trans rfl
  have c_v_4 : w2'.cell? ⟨w.heap.size, 4, none⟩ = some (.string ke) := (HR_v.out.cell 4).trans rfl
  have c_v_5 : w2'.cell? ⟨w.heap.size, 5, none⟩ = some (.string na) := (HR_v.out.cell 5).trans rfl
  have c_v_6 : w2'.cell? ⟨w.heap.size, 6, none⟩ = some (.int .i64 (ar)) := (HR_v.out.cell 6).trans rfl
  have c_v_7 : w2'.cell? ⟨w.heap.size, 7, none⟩ = some (.int .i64 (nn)) := (HR_v.out.cell 7).trans rfl
  go_upto_region 6 with (fail)
  refine Grow.wp_region_grow 14 [TP.eq (.string (t0)), TP.eq (.string (t0 ++ (⟨#[32, 111, 117, 116, 99, 111, 109, 101, 32]⟩ : ByteArray))), TP.eq (.pointer (some ⟨w.heap.size, 4, none⟩)), TP.eq (.string ke), TP.eq (.string (t0 ++ (⟨#[32, 111, 117, 116, 99, 111, 109, 101, 32]⟩ : ByteArray) ++ ke)), TP.eq (.string (t0 ++ (⟨#[32, 111, 117, 116, 99, 111, 109, 101, 32]⟩ : ByteArray) ++ ke ++ (⟨#[32]⟩ : ByteArray))), TP.eq (.pointer (some ⟨w.heap.size, 5, none⟩)), TP.eq (.string na), TP.eq (.string (t0 ++ (⟨#[32, 111, 117, 116, 99, 111, 109, 101, 32]⟩ : ByteArray) ++ ke ++ (⟨#[32]⟩ : ByteArray) ++ na)), TP.eq (.string (t0 ++ (⟨#[32, 111, 117, 116, 99, 111, 109, 101, 32]⟩ : ByteArray) ++ ke ++ (⟨#[32]⟩ : ByteArray) ++ na ++ (⟨#[32]⟩ : ByteArray))), TP.eq (.pointer (some ⟨w.heap.size, 7, none⟩)), TP.eq (.int .i64 (nn)), TP.eq (.string sx), TP.eq (.string (t0 ++ (⟨#[32, 111, 117, 116, 99, 111, 109, 101, 32]⟩ : ByteArray) ++ ke ++ (⟨#[32]⟩ : ByteArray) ++ na ++ (⟨#[32]⟩ : ByteArray) ++ sx))] [[], [0], [], [2], [1, 3], [4], [], [6], [5, 7], [8], [], [10], [11], [9, 12]] (by kernel_rfl) (by kernel_rfl) ⟨?o0g2, ?o1g2, ?o2g2, ?o3g2, ?o4g2, ?o5g2, ?o6g2, ?o7g2, ?o8g2, ?o9g2, ?o10g2, ?o11g2, ?o12g2, ?o13g2, trivial⟩ ?_
  case o0g2 | o2g2 | o6g2 | o10g2 =>
   intro w' hb
   show wpList _ _ _ _ _ _
   go_wp2
   exact ⟨rfl, Below.refl _ _, rfl⟩
  case o1g2 =>
   intro w' hb v1 hv1
   obtain rfl : v1 = _ := hv1
   show wpList _ _ _ _ _ _
   simp only [Grow.dstOf, zz1, zz3, zz4, Act.put, zz5, zz6, zz7]
   go_wp2
   exact ⟨rfl, Below.refl _ _, rfl⟩
  case o3g2 | o7g2 | o11g2 =>
   intro w' hb v1 hv1
   obtain rfl : v1 = _ := hv1
   have c_v_4' := zzc hb c_v_4
   have c_v_5' := zzc hb c_v_5
   have c_v_7' := zzc hb c_v_7
   show wpList _ _ _ _ _ _
   simp only [Grow.dstOf, zz1, zz2, zz3, zz4, Act.put, zz5, zz6, zz7]
   go_wp2
   exact ⟨rfl, Below.refl _ _, rfl⟩
  case o4g2 | o8g2 | o13g2 =>
   intro w' hb v1 hv1 v2 hv2
   obtain rfl : v1 = _ := hv1
   obtain rfl : v2 = _ := hv2
   show wpList _ _ _ _ _ _
   simp only [Grow.dstOf, zz1, zz2, zz3, zz4, Act.put, zz5, zz6, zz7]
   go_wp2
   exact ⟨rfl, Below.refl _ _, rfl⟩
  case o5g2 | o9g2 =>
   intro w' hb v1 hv1
   obtain rfl : v1 = _ := hv1
   show wpList _ _ _ _ _ _
   simp only [Grow.dstOf, zz1, zz2, zz3, zz4, Act.put, zz5, zz6, zz7]
   go_wp2
   exact ⟨rfl, Below.refl _ _, rfl⟩
  case o12g2 =>
   intro w' hb v1 hv1
   obtain rfl : v1 = _ := hv1
   show wpList _ _ _ _ _ _
   simp only [Grow.dstOf, zz1, zz2, zz3, zz4, Act.put, zz5, zz6, zz7]
   go_wp2_with fail
   refine (HIsx.out w' (HT0.out.ext (ext_trans HW.out hb))).mono ?_
   rintro e wz ⟨rfl, hbz⟩
   go_wp2
   exact ⟨rfl, hbz, rfl⟩
  intro w3' hbz u0 hu0 u1 hu1 u2 hu2 u3 hu3 u4 hu4 u5 hu5 u6 hu6 u7 hu7 u8 hu8 u9 hu9 u10 hu10 u11 hu11 u12 hu12 u13 hu13
  obtain rfl : u13 = _ := hu13
  clear hu0 hu1 hu2 hu3 hu4 hu5 hu6 hu7 hu8 hu9 hu10 hu11 hu12
  replace HR_v := Lib.hid (HR_v.out.ext hbz)
  replace HW := Lib.hid (ext_trans HW.out hbz)
  clear c_v_0 c_v_1 c_v_2 c_v_3 c_v_4 c_v_5 c_v_6 c_v_7
  clear hbz
  show wpList _ _ _ _ _ _
  simp only [Act.put, zz5, zz6, zz7]
  obtain ⟨sz, hsz⟩ : ∃ z, t0 ++ (⟨#[32, 111, 117, 116, 99, 111, 109, 101, 32]⟩ : ByteArray) ++ ke ++ (⟨#[32]⟩ : ByteArray) ++ na ++ (⟨#[32]⟩ : ByteArray) ++ sx = z := ⟨_, rfl⟩
  rw [hsz]
  have HS := Lib.hid hsz
  clear hsz
  go_wp2
  exact bodyPost_ret (v := .string sz) (by simp [results, Tryd.results12, go_sem]) rfl ⟨by rw [← HS.out, HN.out], HW.out⟩
end Tx
end Go.Proofs.YtbgbfjfboaajbaaDoor
