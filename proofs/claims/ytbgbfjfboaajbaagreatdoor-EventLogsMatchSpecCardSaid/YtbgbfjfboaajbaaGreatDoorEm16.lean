/- ReadLog of package event: a log's lines. Printed by gen_logr.py. -/
import Derived.Test.YtbgbfjfboaajbaaGreatDoorEm11
import Derived.Test.YtbgbfjfboaajbaaGreatDoorEm15
namespace Go.Proofs.YtbgbfjfboaajbaaGreatDoor
open Go.RowKit
namespace Tx
set_option maxRecDepth 100000 in
set_option maxHeartbeats 16000000 in
theorem evReadLog_at (s : ByteArray) (w : World) (he : Er w) (ht : Tb w) (hm : Ml w) : Calls Tryz.prog 8 #[.string s] w (RdG s.data.toList w) := by
 have Hhe := Lib.hid he
 have Hht := Lib.hid ht
 have Hhm := Lib.hid hm
 clear he ht hm
 have HP := Lib.hid evt_info
 have hsl0 : s.data.toList.length = s.size := Array.length_toList
 have HSL0 := Lib.hid hsl0
 go_enter Tryz.func8, Tryz.ntmps8
 by_cases hlong : 3000000 < s.size
 ·have HN := Lib.hid (logR_long (t := s.data.toList) (by omega))
  have hlong' : (3000000 : Int) < (s.size : Int) := by omega
  clear hlong hsl0
  go_wp2
  exact bodyPost_ret (v := .tuple #[.slice none 0 0, .int .i64 0, .int .i64 2]) (by simp [results, Tryz.results8, go_sem]) rfl (rdG_bad HN.out (Below.refl _ _))
 have HS : Hid (s.size ≤ 3000000) := Lib.hid (by omega)
 have HL0 : Hid (¬ 3000000 < s.data.toList.length) := Lib.hid (by omega)
 have hlong' : ¬ (3000000 : Int) < (s.size : Int) := by omega
 clear hlong hsl0
 go_wp2
 go_loopw [0, 5, 6] (fun v0 v5 v6 wr => ∃ (tx : ByteArray) (acc : List Ev) (n : Nat), v0 = .string tx ∧ v6 = .int .i64 ((n : Int) + 1) ∧ Hid (acc.length = n) ∧ wr.ownsRow w.heap.size 31 8 v5 n (acc.flatMap evL) ∧ Hid (rdEs 1 (cutL 10 s.data.toList) = apE acc (rdEs (n + 1) (cutL 10 tx.data.toList))) ∧ Hid (∀ m ∈ acc, m.ok) ∧ n + tx.size ≤ s.size ∧ Below w.heap.size w wr) (fun v0 _ _ _ => szOf v0)
 case atStart => exact ⟨s, [], 0, rfl, rfl, rfl, World.ownsRow_nil _ _ _ _, Lib.hid (apE_nil _).symm, Lib.hid (fun m hm => by cases hm), by omega, Below.refl _ _⟩
 case round =>
  obtain ⟨tx, acc, n, rfl, rfl, HLN, hown, HR, HOK, hsz, hb⟩ := hrel
  have hn20 : n ≤ 3000000 := by have := HS.out; omega
  have Hn20 := Lib.hid hn20
  by_cases h0 : tx.size = 0
  ·have hnil := nil_of h0
   have hem : (tx.toList == []) = true := by rw [ByteArray.toList_eq, hnil]; rfl
   have hem3 : tx.toList = [] := by rw [ByteArray.toList_eq, hnil]
   have HA : Hid (∀ x f, LogL acc x f → LogR s.data.toList x 0 f) := Lib.hid (fun x f h => logR_all HL0.out (by rw [HR.out, hnil, rdEs_end]; show Sum.inl (acc ++ []) = _; rw [List.append_nil]) h)
   obtain rfl : acc.length = n := HLN.out
   have hsl := Sl.ofOwn hown
   obtain ⟨a5, c5, rfl, -⟩ := id hsl
   clear hnil hsl HR HLN h0 hsz
   go_wp2
   go_loopw [49] (fun i wr => ∃ k : Nat, k ≤ acc.length ∧ i = .int .i64 k ∧ wr.ownsRow w.heap.size 31 8 (.slice a5 acc.length c5) acc.length (acc.flatMap evL) ∧ Hid (faultsE acc = faultsE (acc.drop k)) ∧ Below w.heap.size w wr) (fun i _ => acc.length - (intOf i).toNat)
   case atStart => exact ⟨0, by omega, rfl, hown, Lib.hid rfl, hb⟩
   case round =>
    clear hown hb
    obtain ⟨k, hk, rfl, hown, HK, hbr⟩ := hrel
    by_cases hlt : k < acc.length
    ·have hgk := List.getElem?_eq_getElem hlt
     have hmo := HOK.out _ (List.getElem_mem hlt)
     generalize acc[k] = m at hgk hmo
     have HST := Lib.hid (faults_stepE hgk)
     obtain ⟨b, o, rfl, e0, e1, e2, e3, e4, e5, e6, e7⟩ := event_cells (Sl.ofOwn hown) hgk
     have hk0 : (0 : Int) ≤ (k : Int) := Int.natCast_nonneg _
     have hk1 : (k : Int) < (acc.length : Int) := by omega
     have HMO := Lib.hid hmo
     clear hgk hmo
     go_upto_region 16 with (fail)
     clear e0 e1 e2 e3 e4 e5 e6 e7
     refine wp_box1 fun X hszX hbX hM => ?_
     obtain ⟨_, hM2⟩ := id hM
     have hown2 := ownsRow_ext hown hbX
     clear hM hown hszX
     go_wp2_with fail
     refine (event_Check m HMO.out X).mono ?_
     rintro e w2 ⟨rfl, hb2⟩
     have hown3 := ownsRow_ext hown2 hb2
     have hb3 := ext_trans hbr (ext_trans hbX hb2)
     obtain ⟨f, hf⟩ : ∃ z, checkE m = z := ⟨_, rfl⟩
     rw [hf] at HST ⊢
     clear hM2 hown2 hbr hbX hb2 hf
     by_cases hf0 : f = 0
     ·subst hf0
      have HK2 : Hid (faultsE acc = faultsE (acc.drop (k + 1))) := Lib.hid (HK.out.trans (HST.out.trans (if_pos rfl)))
      clear HK HST
      go_wp2
      go_roundw
      case rel => exact ⟨k + 1, by omega, by go_num, hown3, HK2, hb3⟩
      case measure => simp [intOf]; omega
     ·have hne : (f != 0) = true := by simpa using hf0
      have HFA : Hid (faultsE acc = f) := Lib.hid (HK.out.trans (HST.out.trans (if_neg hf0)))
      have HN := Lib.hid (HA.out _ _ (logL_fault (by rw [HFA.out]; exact hf0)))
      rw [HFA.out] at HN
      clear HK HST hf0 hown3
      go_wp2
      exact bodyPost_ret (v := .tuple #[.slice none 0 0, .int .i64 0, .int .i64 f]) (by simp [results, Tryz.results8, go_sem]) rfl (rdG_bad HN.out hb3)
    ·have HF0 : Hid (faultsE acc = 0) := Lib.hid (HK.out.trans (by rw [List.drop_eq_nil_of_le (by omega)]; rfl))
     obtain ⟨wy, hwy⟩ : ∃ z, z = wr := ⟨_, rfl⟩
     subst hwy
     have hown5 := hown
     have hby := hbr
     clear hown hbr HK
     go_wp2_with fail
     refine (unite_at w.heap.size acc _ wy hby.size hown5 (by have := Hn20.out; omega)).mono ?_
     rintro e w3 hU
     have HU := Lib.hid hU
     clear hU
     rcases HU.out with ⟨C, a6, c6, rfl, hs6, hasc, hmem, hb6⟩ | ⟨rfl, hcl, hb6⟩
     ·have hmem2 : ∀ x, x ∈ C ↔ x ∈ acc := hmem
      have HASC := Lib.hid hasc
      have HMEM := Lib.hid hmem2
      have HS6 := Lib.hid hs6
      have hb7 := hby.trans (hb6.mono (Nat.le_refl _))
      clear hasc hmem hmem2 hs6 hb6 hby hown5 HU
      go_wp2_with fail
      refine (event_CheckLog C (fun e he => HOK.out e ((HMEM.out e).1 he)) a6 c6 w3 HS6.out).mono ?_
      rintro e w4 ⟨rfl, hb8⟩
      have hb9 := ext_trans hb7 hb8
      have HS7 := Lib.hid (HS6.out.ext hb8)
      obtain ⟨f, hf⟩ : ∃ z, checkL C = z := ⟨_, rfl⟩
      have HF := Lib.hid hf
      rw [hf]
      clear hf hb7 hb8 HS6
      by_cases hf0 : f = 0
      ·subst hf0
       have HN := Lib.hid (HA.out _ _ (logL_yes HF0.out HASC.out HMEM.out HF.out))
       go_wp2
       exact bodyPost_ret (v := .tuple #[.slice a6 C.length c6, .int .i64 0, .int .i64 0]) (by simp [results, Tryz.results8, go_sem]) rfl (⟨C, a6, c6, 0, 0, rfl, HS7.out, fun e he => HOK.out e ((HMEM.out e).1 he), HN.out, hb9⟩)
      ·have hne : (f != 0) = true := by simpa using hf0
       have HN := Lib.hid (HA.out _ _ (logL_no HF0.out HASC.out HMEM.out (by rw [HF.out]; exact hf0)))
       rw [HF.out] at HN
       clear hf0
       go_wp2
       exact bodyPost_ret (v := .tuple #[.slice none 0 0, .int .i64 0, .int .i64 f]) (by simp [results, Tryz.results8, go_sem]) rfl (rdG_bad HN.out hb9)
     ·have HN := Lib.hid (HA.out _ _ (logL_clash HF0.out hcl))
      have hb7 := hby.trans (hb6.mono (Nat.le_refl _))
      clear hcl hb6 hby hown5 HU
      go_wp2
      exact bodyPost_ret (v := .tuple #[.slice none 0 0, .int .i64 0, .int .i64 13]) (by simp [results, Tryz.results8, go_sem]) rfl (rdG_bad HN.out hb7)
  ·have hem := hem_of h0
   have hem3 : ¬ (tx.toList = []) := fun h => by rw [h] at hem; cases hem
   have hne : tx.data.toList ≠ [] := fun h => hem3 (by rw [ByteArray.toList_eq]; exact h)
   obtain ⟨hd, tl, hc⟩ : ∃ hd tl, cut1 10 tx.data.toList = (hd, tl) := ⟨_, _, rfl⟩
   have HC := Lib.hid hc
   have HNE := Lib.hid hne
   have hlen := cut1_size hc
   rw [show tx.data.toList.length = tx.size from Array.length_toList] at hlen
   have HLEN := Lib.hid hlen
   clear hne hlen h0
   go_wp2_with fail
   refine (cut_at tx 10 (by have := HS.out; omega) wr (Hhm.out.ext hb)).mono ?_
   rintro e w1 ⟨rfl, hb1⟩
   rw [hc]
   have hown1 := ownsRow_ext hown hb1
   clear hc hown
   go_wp2_with fail
   refine (evread_at (stB hd) (by rw [stB_size]; have := HS.out; have := HLEN.out.1; omega) w1 (Hhe.out.ext (ext_trans hb hb1)) (Hht.out.ext (ext_trans hb hb1)) (Hhm.out.ext (ext_trans hb hb1))).mono ?_
   rintro e w2 ⟨x, b, rfl, hx, hcs, hb2⟩
   have HX := Lib.hid hx
   have HCS : Hid ((readO hd = some x ∧ b = true) ∨ (readO hd = none ∧ b = false)) := Lib.hid hcs
   have hown2 := ownsRow_ext hown1 hb2
   have hb4 := ext_trans hb (ext_trans hb1 hb2)
   clear hx hcs hown1 hb1 hb2 hb
   go_upto_region 9 with (fail)
   refine wp_box1 fun X hszX hbX hA => ?_
   have hown3 := ownsRow_ext hown2 hbX
   have hb5 := ext_trans hb4 hbX
   have hsz5 := hb5.size
   clear hown2 hb4 hbX hszX
   cases b
   ·have HN : Hid (LogR s.data.toList [] ((n : Int) + 1) 10) := Lib.hid (logR_line (i := n + 1) HL0.out (by
     rw [HR.out]
     have hq : readO hd = none := by rcases HCS.out with ⟨_, h⟩ | ⟨h, _⟩; cases h; exact h
     cases tl with
     | none => rw [rdEs_last HNE.out HC.out]; rfl
     | some r => rw [rdEs_bad HC.out hq]; rfl))
    clear HR HCS hown3
    go_wp2
    exact bodyPost_ret (v := .tuple #[.slice none 0 0, .int .i64 ((n : Int) + 1), .int .i64 10]) (by simp [results, Tryz.results8, go_sem]) rfl (rdG_bad HN.out hb5)
   ·have HQ : Hid (readO hd = some x) := Lib.hid (by rcases HCS.out with ⟨h, _⟩ | ⟨_, h⟩; exact h; cases h)
    clear HCS
    cases tl with
    | none =>
     have HN : Hid (LogR s.data.toList [] ((n : Int) + 1) 10) := Lib.hid (logR_line (i := n + 1) HL0.out (by rw [HR.out, rdEs_last HNE.out HC.out]; rfl))
     clear HR hown3
     simp only [Option.getD_none, Option.isSome_none]
     go_wp2
     exact bodyPost_ret (v := .tuple #[.slice none 0 0, .int .i64 ((n : Int) + 1), .int .i64 10]) (by simp [results, Tryz.results8, go_sem]) rfl (rdG_bad HN.out hb5)
    | some r =>
     have HR2 : Hid (rdEs 1 (cutL 10 s.data.toList) = apE (acc ++ [x]) (rdEs (n + 1 + 1) (cutL 10 r))) := Lib.hid (by rw [HR.out, rdEs_more HC.out HQ.out, apE_more])
     have hr : (stB r).size < tx.size := by rw [stB_size]; exact HLEN.out.2 r rfl
     clear HR HQ HC
     simp only [Option.getD_some, Option.isSome_some]
     obtain ⟨_, hA2⟩ := id hA
     clear hA
     go_wp2_with (at_builtin; refine wpList_append_sl rfl _ _ 22 rfl w.heap.size 31 Tryz.underlying22 HP.out rfl (by decide) rfl (ownsRow_ext hown3 (ext_alloc _ _)) rfl (Sl.new X _ _ 1 1 (by omega) (by decide)) rfl (by intro u hu; simp at hu; rcases hu with rfl | rfl | rfl | rfl | rfl | rfl | rfl | rfl <;> rfl) (by unfold maxLen; omega) (by omega) (by simp; omega) ?_; intro v7 w7 hown7 hg7 _)
     have hL : acc.flatMap evL ++ evL x = (acc ++ [x]).flatMap evL := by rw [List.flatMap_append]; simp
     have hown8 : w7.ownsRow w.heap.size 31 8 v7 (n + 1) ((acc ++ [x]).flatMap evL) := by rw [← hL]; exact hown7
     have hb8 : Below w.heap.size w w7 := (ext_trans hb5 (ext_alloc _ _)).grown hg7 (by simp; omega) (fun q hq => (hown3.lt q hq).1)
     have HLN2 : Hid ((acc ++ [x]).length = n + 1) := Lib.hid (by rw [List.length_append, HLN.out]; rfl)
     have HOK2 : Hid (∀ m ∈ acc ++ [x], m.ok) := Lib.hid (fun m hm => by
      rcases List.mem_append.1 hm with hm | hm
      ·exact HOK.out m hm
      ·obtain rfl := List.mem_singleton.1 hm; exact HX.out)
     clear hown7 hg7 hown3 hb5 hL hA2
     go_wp2
     go_roundw
     case rel => exact ⟨stB r, acc ++ [x], n + 1, rfl, by go_num, HLN2, hown8, HR2, HOK2, by omega, hb8⟩
     case measure => exact hr
end Tx
end Go.Proofs.YtbgbfjfboaajbaaGreatDoor
