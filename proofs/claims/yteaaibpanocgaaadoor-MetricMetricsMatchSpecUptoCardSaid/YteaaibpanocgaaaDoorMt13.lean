/- checkAll of package metric, checkList of the reference. Printed by gen_mtc.py. Read of package metric and of the reference: a text's lines. Printed by gen_mtd.py. Text of package metric. Printed by gen_mtt.py. Text of the reference. Printed by gen_mtt.py. -/
import Derived.Test.YteaaibpanocgaaaDoorMt08
import Derived.Test.YteaaibpanocgaaaDoorMt00
import Derived.Test.YteaaibpanocgaaaDoorMt11
import Derived.Test.YteaaibpanocgaaaDoorMt01
import Derived.Test.YteaaibpanocgaaaDoorMt03
import Derived.Test.YteaaibpanocgaaaDoorProg
import Derived.Deep.Cut
import Derived.Deep.QuietTactic
import Derived.BigQuiet
import Derived.Test.YteaaibpanocgaaaDoorMt04
import Derived.Test.YteaaibpanocgaaaDoorMt05
import Derived.Test.YteaaibpanocgaaaDoorMt06
import Derived.Test.YteaaibpanocgaaaDoorMt07
import Derived.Test.YteaaibpanocgaaaDoorMt12
import Derived.Test.YteaaibpanocgaaaDoorMt09
namespace Go.Proofs.YteaaibpanocgaaaDoor
open Go.RowKit
namespace Tx
set_option maxRecDepth 100000 in
set_option maxHeartbeats 8000000 in
theorem checkList_at (l : List Met) (hok : ∀ m ∈ l, m.ok) (a : Option Addr) (c : Nat) (w : World) (hs : Sl w (.slice a l.length c) l.length (l.flatMap metL)) :
  Calls Tryd.prog 21 #[.slice a l.length c] w fun e w' => e = .returned (.int .i64 (chkM l)) ∧ Below w.heap.size w w' := by
 have hl : l.length ≤ 9223372036854775807 := by obtain ⟨_, _, hv, h1, h2, _⟩ := hs; cases hv; unfold maxLen at h2; omega
 have HOK := Lib.hid hok
 have HS := Lib.hid hs
 clear hok hs
 go_enter Tryd.func21, Tryd.ntmps21
 by_cases h50 : 50 < l.length
 ·have HN : Hid (chkM l = 2) := Lib.hid (if_pos h50)
  have h50' : (50 : Int) < (l.length : Int) := by omega
  clear h50
  go_wp2
  go_ret
  exact ⟨ret_int HN.out.symm, Below.refl _ _⟩
 ·have HST := Lib.hid (chk_start h50)
  have h50' : ¬ (50 : Int) < (l.length : Int) := by omega
  clear h50
  go_wp2
  go_loopw [11] (fun i wr => ∃ k : Nat, k ≤ l.length ∧ i = .int .i64 k ∧ Hid (chkM l = chkLs (preN l k) (l.drop k)) ∧ Below w.heap.size w wr) (fun i _ => l.length - (intOf i).toNat)
  case atStart => exact ⟨0, by omega, rfl, HST, Below.refl _ _⟩
  case round =>
   obtain ⟨k, hk, rfl, HK, hb⟩ := hrel
   by_cases hlt : k < l.length
   ·have hgk := List.getElem?_eq_getElem hlt
    have hmm := HOK.out _ (List.getElem_mem hlt)
    generalize l[k] = m at hgk hmm
    have HG := Lib.hid hgk
    have HM := Lib.hid hmm
    obtain ⟨b, o, rfl, hcs⟩ := (HS.out.ext hb).elem metL_len (by omega : 0 < 6) hgk
    have e0 := hcs 0 _ rfl
    have e1 := hcs 1 _ rfl
    have e2 := hcs 2 _ rfl
    have e3 := hcs 3 _ rfl
    have e4 := hcs 4 _ rfl
    have e5 := hcs 5 _ rfl
    rw [Nat.add_zero] at e0
    have hk0 : (0 : Int) ≤ (k : Int) := Int.natCast_nonneg _
    have hk1 : (k : Int) < (l.length : Int) := by omega
    clear hcs hgk hmm
    go_upto_region 6 with (fail)
    clear e0 e1 e2 e3 e4 e5
    refine wp_box1 fun X hszX hbX hS => ?_
    obtain ⟨_, hS2⟩ := id hS
    go_wp2_with fail
    refine (ref8_Check m HM.out _).mono ?_
    rintro e w2 ⟨rfl, hb2⟩
    have hS3 := hS.ext hb2
    have hb4 := ext_trans hb (ext_trans hbX hb2)
    have HCS := Lib.hid (chk_step HG.out)
    obtain ⟨f, hf⟩ : ∃ z, checkM m = z := ⟨_, rfl⟩
    rw [hf] at HCS ⊢
    clear hS2 hS hbX hb2 hf
    by_cases h0 : f = 0
    ·subst h0
     have HC2 : Hid (chkLs (preN l k) (l.drop k) = if ordB (preN l k) m.name = false then 8 else chkLs (preN l (k + 1)) (l.drop (k + 1))) := Lib.hid (HCS.out.trans (if_neg (by decide)))
     clear HCS
     obtain ⟨nm, hnm⟩ : ∃ z, m.name = z := ⟨_, rfl⟩
     obtain ⟨_, hS4⟩ := id hS3
     have c0 := (hS4 0).trans (show (metC m)[0]? = some (.string m.name) from rfl)
     rw [hnm] at c0 HC2
     clear hnm hS4
     by_cases hz : k = 0
     ·subst hz
      have HK2 : Hid (chkM l = chkLs (preN l 1) (l.drop 1)) := Lib.hid (HK.out.trans (HC2.out.trans (if_neg (by rw [preN_zero]; simp [ordB]))))
      clear HK HC2
      go_wp2_with fail
      go_quiet (fail)
      go_wp2
      go_roundw
      case rel => exact ⟨1, by omega, by go_num, HK2, below_drewN hb4 _⟩
      case measure => simp [intOf]; omega
     ·have hkp : k - 1 < l.length := by omega
      have hgp := List.getElem?_eq_getElem hkp
      generalize l[k - 1] = p at hgp
      have HGP := Lib.hid hgp
      have HORD := Lib.hid (ord_prev hz hgp nm)
      obtain ⟨b', o', ea, hcs'⟩ := (HS.out.ext hb4).elem metL_len (by omega : 0 < 6) hgp
      cases ea
      have f0 := hcs' 0 _ rfl
      rw [Nat.add_zero] at f0
      have hpos : (0 : Int) < (k : Int) := by omega
      have hkm : (k : Int) - 1 = ((k - 1 : Nat) : Int) := by omega
      obtain ⟨j, hj⟩ : ∃ j, k - 1 = j := ⟨_, rfl⟩
      have hkj : k = j + 1 := by omega
      obtain ⟨pn, hpn⟩ : ∃ z, p.name = z := ⟨_, rfl⟩
      rw [hpn] at HORD f0
      rw [hj] at f0 hkm
      clear hcs' hgp hpn hj
      go_wp2_with fail
      go_quiet (fail)
      rw [leq_not]
      obtain ⟨bb, hbb⟩ : ∃ z, Op.bytesLess pn.toList nm.toList = z := ⟨_, rfl⟩
      rw [hbb] at HORD ⊢
      clear hbb
      cases bb
      ·have HN : Hid (chkM l = 8) := Lib.hid (HK.out.trans (HC2.out.trans (if_pos HORD.out)))
       clear HK HC2 HORD
       go_wp2
       go_ret
       exact ⟨ret_int HN.out.symm, below_drewN hb4 _⟩
      ·have HK2 : Hid (chkM l = chkLs (preN l (k + 1)) (l.drop (k + 1))) := Lib.hid (HK.out.trans (HC2.out.trans (if_neg (by rw [HORD.out]; decide))))
       clear HK HC2 HORD
       go_wp2
       go_roundw
       case rel => exact ⟨k + 1, by omega, by go_num, HK2, below_drewN hb4 _⟩
       case measure => simp [intOf]; omega
    ·have hne : (f != 0) = true := by simpa using h0
     have HN : Hid (chkM l = f) := Lib.hid (HK.out.trans (HCS.out.trans (if_pos h0)))
     clear h0
     go_wp2
     go_ret
     exact ⟨ret_int HN.out.symm, hb4⟩
   ·have HN : Hid (chkM l = 0) := Lib.hid (HK.out.trans (chk_end (by omega)))
    go_wp2
    go_ret
    exact ⟨ret_int HN.out.symm, hb⟩
end Tx
end Go.Proofs.YteaaibpanocgaaaDoor
namespace Go.Proofs.YteaaibpanocgaaaDoor
open Go.RowKit
namespace Tx
set_option maxRecDepth 100000 in
set_option maxHeartbeats 16000000 in
theorem ref8Read_at (s : ByteArray) (hs : s.size ≤ 1048576) (w : World) (hm : Ml w) : Calls Tryd.prog 10 #[.string s] w (RdLP s.data.toList w) := by
 have HS := Lib.hid hs
 have Hhm := Lib.hid hm
 clear hs hm
 have HP := Lib.hid met_info
 go_enter Tryd.func10, Tryd.ntmps10
 go_wp2
 go_loopw [0, 5, 6] (fun v0 v5 v6 wr => ∃ (tx : ByteArray) (acc : List Met) (n : Nat), v0 = .string tx ∧ v6 = .int .i64 (n : Int) ∧ Hid (acc.length = n) ∧ wr.ownsRow w.heap.size 24 6 v5 n (acc.flatMap metL) ∧ Hid (rdLs 1 (cutL 10 s.data.toList) = apM acc (rdLs (n + 1) (cutL 10 tx.data.toList))) ∧ Hid (∀ m ∈ acc, m.ok) ∧ n + tx.size ≤ s.size ∧ Below w.heap.size w wr) (fun v0 _ _ _ => szOf v0)
 case atStart => exact ⟨s, [], 0, rfl, rfl, rfl, World.ownsRow_nil _ _ _ _, Lib.hid (apM_nil _).symm, Lib.hid (fun m hm => by cases hm), by omega, Below.refl _ _⟩
 case round =>
  obtain ⟨tx, acc, n, rfl, rfl, HLN, hown, HR, HOK, hsz, hb⟩ := hrel
  have hn20 : n ≤ 1048576 := by have := HS.out; omega
  by_cases h0 : tx.size = 0
  ·have hnil := nil_of h0
   have hem : (tx.toList == []) = true := by rw [ByteArray.toList_eq, hnil]; rfl
   have hem3 : tx.toList = [] := by rw [ByteArray.toList_eq, hnil]
   have HA : Hid (rdT s.data.toList = if chkM acc = 0 then (acc, 0, 0) else ([], 0, chkM acc)) := Lib.hid (rdT_all (by rw [HR.out, hnil, rdLs_end]; show Sum.inl (acc ++ []) = _; rw [List.append_nil]))
   obtain rfl : acc.length = n := HLN.out
   have hsl := Sl.ofOwn hown
   obtain ⟨a5, c5, rfl, -⟩ := id hsl
   have HSL := Lib.hid hsl
   clear hnil hsl hown HR HLN h0
   go_wp2_with fail
   refine (checkList_at acc HOK.out a5 c5 wr HSL.out).mono ?_
   rintro e w2 ⟨rfl, hb2⟩
   have HSL2 := Lib.hid (HSL.out.ext hb2)
   have hb3 := ext_trans hb hb2
   obtain ⟨f, hf⟩ : ∃ z, chkM acc = z := ⟨_, rfl⟩
   rw [hf] at HA ⊢
   clear hf hb2 HSL hb
   by_cases h0 : f = 0
   ·subst h0
    have HN := Lib.hid (HA.out.trans (if_pos rfl))
    clear HA
    go_wp2
    exact bodyPost_ret (v := .tuple #[.slice a5 acc.length c5, .int .i64 0, .int .i64 0]) (by simp [results, Tryd.results10, go_sem]) rfl (rdLP_good HN.out HSL2.out HOK.out hb3)
   ·have hne : (f != 0) = true := by simpa using h0
    have HN := Lib.hid (HA.out.trans (if_neg h0))
    clear HA h0
    go_wp2
    exact bodyPost_ret (v := .tuple #[.slice none 0 0, .int .i64 0, .int .i64 f]) (by simp [results, Tryd.results10, go_sem]) rfl (rdLP_bad HN.out rfl hb3)
  ·have hem := hem_of h0
   have hem3 : ¬ (tx.toList = []) := fun h => by rw [h] at hem; cases hem
   have hne : tx.data.toList ≠ [] := fun h => hem3 (by rw [ByteArray.toList_eq]; exact h)
   obtain ⟨hd, tl, hc⟩ : ∃ hd tl, cut1 10 tx.data.toList = (hd, tl) := ⟨_, _, rfl⟩
   have HC := Lib.hid hc
   have HNE := Lib.hid hne
   have hlen := cut1_size hc
   rw [show tx.data.toList.length = tx.size from Array.length_toList] at hlen
   have HLEN := Lib.hid hlen
   clear hne hlen h0
   go_wp2_with fail
   refine (cut_at tx 10 (by have := HS.out; omega) wr (Hhm.out.ext hb)).mono ?_
   rintro e w1 ⟨rfl, hb1⟩
   rw [hc]
   have hown1 := ownsRow_ext hown hb1
   clear hc hown
   go_wp2_with fail
   refine (ref8read_at (stB hd) (by rw [stB_size]; have := HS.out; have := HLEN.out.1; omega) w1 (Hhm.out.ext (ext_trans hb hb1))).mono ?_
   rintro e w2 ⟨x, b, rfl, hx, hcs, hb2⟩
   have HX := Lib.hid hx
   have HCS : Hid ((readM hd = some x ∧ b = true) ∨ (readM hd = none ∧ b = false)) := Lib.hid hcs
   have hown2 := ownsRow_ext hown1 hb2
   have hb4 := ext_trans hb (ext_trans hb1 hb2)
   clear hx hcs hown1 hb1 hb2 hb
   go_upto_region 7 with (fail)
   refine wp_box1 fun X hszX hbX hA => ?_
   have hown3 := ownsRow_ext hown2 hbX
   have hb5 := ext_trans hb4 hbX
   have hsz5 := hb5.size
   clear hown2 hb4 hbX hszX
   cases b
   ·have HN : Hid (rdT s.data.toList = ([], (n : Int) + 1, 10)) := Lib.hid (rdT_line (i := n + 1) (by
     rw [HR.out]
     have hq : readM hd = none := by rcases HCS.out with ⟨_, h⟩ | ⟨h, _⟩; cases h; exact h
     cases tl with
     | none => rw [rdLs_last HNE.out HC.out]; rfl
     | some r => rw [rdLs_bad HC.out hq]; rfl))
    clear HR HCS hown3
    go_wp2
    exact bodyPost_ret (v := .tuple #[.slice none 0 0, .int .i64 ((n : Int) + 1), .int .i64 10]) (by simp [results, Tryd.results10, go_sem]) rfl (rdLP_bad HN.out rfl hb5)
   ·have HQ : Hid (readM hd = some x) := Lib.hid (by rcases HCS.out with ⟨h, _⟩ | ⟨_, h⟩; exact h; cases h)
    clear HCS
    cases tl with
    | none =>
     have HN : Hid (rdT s.data.toList = ([], (n : Int) + 1, 10)) := Lib.hid (rdT_line (i := n + 1) (by rw [HR.out, rdLs_last HNE.out HC.out]; rfl))
     clear HR hown3
     simp only [Option.getD_none, Option.isSome_none]
     go_wp2
     exact bodyPost_ret (v := .tuple #[.slice none 0 0, .int .i64 ((n : Int) + 1), .int .i64 10]) (by simp [results, Tryd.results10, go_sem]) rfl (rdLP_bad HN.out rfl hb5)
    | some r =>
     have HR2 : Hid (rdLs 1 (cutL 10 s.data.toList) = apM (acc ++ [x]) (rdLs (n + 1 + 1) (cutL 10 r))) := Lib.hid (by rw [HR.out, rdLs_more HC.out HQ.out, apM_more])
     have hr : (stB r).size < tx.size := by rw [stB_size]; exact HLEN.out.2 r rfl
     clear HR HQ HC
     simp only [Option.getD_some, Option.isSome_some]
     obtain ⟨_, hA2⟩ := id hA
     clear hA
     go_wp2_with (at_builtin; refine wpList_append_sl rfl _ _ 22 rfl w.heap.size 24 Tryd.underlying22 HP.out rfl (by decide) rfl (ownsRow_ext hown3 (ext_alloc _ _)) rfl (Sl.new X _ _ 1 1 (by omega) (by decide)) rfl (by intro u hu; simp at hu; rcases hu with rfl | rfl | rfl | rfl | rfl | rfl <;> rfl) (by unfold maxLen; omega) (by omega) (by simp; omega) ?_; intro v7 w7 hown7 hg7 _)
     have hL : acc.flatMap metL ++ metL x = (acc ++ [x]).flatMap metL := by rw [List.flatMap_append]; simp
     have hown8 : w7.ownsRow w.heap.size 24 6 v7 (n + 1) ((acc ++ [x]).flatMap metL) := by rw [← hL]; exact hown7
     have hb8 : Below w.heap.size w w7 := (ext_trans hb5 (ext_alloc _ _)).grown hg7 (by simp; omega) (fun q hq => (hown3.lt q hq).1)
     have HLN2 : Hid ((acc ++ [x]).length = n + 1) := Lib.hid (by rw [List.length_append, HLN.out]; rfl)
     have HOK2 : Hid (∀ m ∈ acc ++ [x], m.ok) := Lib.hid (fun m hm => by
      rcases List.mem_append.1 hm with hm | hm
      ·exact HOK.out m hm
      ·obtain rfl := List.mem_singleton.1 hm; exact HX.out)
     clear hown7 hg7 hown3 hb5 hL hA2
     go_wp2
     go_roundw
     case rel => exact ⟨stB r, acc ++ [x], n + 1, rfl, by go_num, HLN2, hown8, HR2, HOK2, by omega, hb8⟩
     case measure => exact hr
end Tx
end Go.Proofs.YteaaibpanocgaaaDoor
namespace Go.Proofs.YteaaibpanocgaaaDoor
open Go.RowKit
namespace Tx
open _root_.Go.Proofs.YteaaibpanocgaaaDoor.Nm
open _root_.Go.Proofs.YteaaibpanocgaaaDoor.Nt (RH RH.cell RH.box RH.lt RH.new RH.ext RH.fre RH.set RH.other)
theorem stL (s : ByteArray) : s = stB s.data.toList := (stB_self s).symm
theorem lineC {m : Met} {kw : ByteArray} (hk : kw = bm (kindW m.kind)) : m.name ++ (⟨#[32]⟩ : ByteArray) ++ kw ++ (⟨#[32]⟩ : ByteArray) ++ m.event ++ (⟨#[32]⟩ : ByteArray) ++ stB (itoaS m.len) ++ (⟨#[32]⟩ : ByteArray) ++ stB (itoaS m.bef) ++ (⟨#[32]⟩ : ByteArray) ++ stB (itoaS m.cap) ++ (⟨#[10]⟩ : ByteArray) = stB (lineM m) := by
 subst hk
 conv => lhs; rw [stL m.name, stL m.event, show (⟨#[10]⟩ : ByteArray) = stB [10] from rfl, show (⟨#[32]⟩ : ByteArray) = stB [32] from rfl]
 rw [show bm (kindW m.kind) = stB (kindW m.kind) from rfl]
 simp only [stB_app]
 congr 1
 simp [lineM, wordsM, joinL]
end Tx
end Go.Proofs.YteaaibpanocgaaaDoor
namespace Go.Proofs.YteaaibpanocgaaaDoor
open Go.RowKit
namespace Tx
open _root_.Go.Proofs.YteaaibpanocgaaaDoor.Nm
open _root_.Go.Proofs.YteaaibpanocgaaaDoor.Nt (RH RH.cell RH.box RH.lt RH.new RH.ext RH.fre RH.set RH.other)
set_option maxRecDepth 100000 in
set_option maxHeartbeats 16000000 in
theorem ref8Text_at (l : List Met) (hok : ∀ m ∈ l, m.ok) (a : Option Addr) (c : Nat) (w : World) (hs : Sl w (.slice a l.length c) l.length (l.flatMap metL)) (ht : Tb w) : Calls Tryd.prog 8 #[.slice a l.length c] w fun e w' => e = .returned (.tuple #[.string (txS l), .int .i64 (chkM l)]) ∧ Below w.heap.size w w' := by
 have HOK := Lib.hid hok
 have HS := Lib.hid hs
 have HT0 := Lib.hid ht
 clear hok hs ht
 go_enter Tryd.func8, Tryd.ntmps8
 go_wp2_with fail
 refine (checkList_at l HOK.out a c w HS.out).mono ?_
 rintro e w1 ⟨rfl, hb1⟩
 obtain ⟨f, hf⟩ : ∃ z, chkM l = z := ⟨_, rfl⟩
 have HF := Lib.hid hf
 rw [hf]
 have hl : l.length ≤ 9223372036854775807 := by obtain ⟨_, _, hv, h1, h2, _⟩ := HS.out; cases hv; unfold maxLen at h2; omega
 clear hf
 by_cases h0 : f = 0
 ·subst h0
  have HA := Lib.hid (chkM_all HF.out)
  have HTX : Hid (txS l = stB (textM l)) := Lib.hid (by unfold txS txM; rw [if_pos HF.out])
  have HLEN := Lib.hid (text_small HF.out)
  go_wp2
  go_loopw [5, 15] (fun sv i wr => ∃ (k : Nat) (st : ByteArray), k ≤ l.length ∧ sv = .string st ∧ i = .int .i64 k ∧ Hid (st = stB (textM (l.take k))) ∧ Below w1.heap.size w1 wr) (fun _ i _ => l.length - (intOf i).toNat)
  case atStart => exact ⟨0, ⟨#[]⟩, by omega, rfl, rfl, Lib.hid rfl, Below.refl _ _⟩
  case round =>
   obtain ⟨k, st, hk, rfl, rfl, HSS, hbr⟩ := hrel
   have hlk := take_small HF.out k
   have hzst : st.size ≤ 15000 := by rw [HSS.out, stB_size]; exact hlk
   by_cases hlt : k < l.length
   ·have hgk := List.getElem?_eq_getElem hlt
    have hmr := HA.out.2 _ (List.getElem_mem hlt)
    generalize l[k] = m at hgk hmr
    have HMR := Lib.hid hmr
    have HTK := Lib.hid (textM_take hgk)
    obtain ⟨b, o, rfl, hcs⟩ := (HS.out.ext (ext_trans hb1 hbr)).elem metL_len (by omega : 0 < 6) hgk
    have e0 := hcs 0 _ rfl
    have e1 := hcs 1 _ rfl
    have e2 := hcs 2 _ rfl
    have e3 := hcs 3 _ rfl
    have e4 := hcs 4 _ rfl
    have e5 := hcs 5 _ rfl
    rw [Nat.add_zero] at e0
    have hk0 : (0 : Int) ≤ (k : Int) := Int.natCast_nonneg _
    have hk1 : (k : Int) < (l.length : Int) := by omega
    clear hcs hgk hmr
    go_upto_region 8 with (fail)
    clear e0 e1 e2 e3 e4 e5
    refine wp_box1 fun X hszX hbX hM => ?_
    obtain ⟨_, hM2⟩ := id hM
    have c0 := (hM2 0).trans (show (metC m)[0]? = some (.string m.name) from rfl)
    have c1 := (hM2 1).trans (show (metC m)[1]? = some (.int .i64 m.kind) from rfl)
    have c2 := (hM2 2).trans (show (metC m)[2]? = some (.string m.event) from rfl)
    have c3 := (hM2 3).trans (show (metC m)[3]? = some (.int .i64 m.len) from rfl)
    have c4 := (hM2 4).trans (show (metC m)[4]? = some (.int .i64 m.bef) from rfl)
    have c5 := (hM2 5).trans (show (metC m)[5]? = some (.int .i64 m.cap) from rfl)
    clear hM hM2
    obtain ⟨nm, kd, ev, ln, bf, cp⟩ := m
    simp only at c0 c1 c2 c3 c4 c5
    have hlb := line_len HMR.out
    have hki := HMR.out.kind
    have hln := HMR.out.len
    have hbf := HMR.out.bef
    have hcp := HMR.out.cap
    have hz1 := (name_wordsM HMR.out.name).2.2
    have hz2 := (name_wordsM HMR.out.event).2.2
    simp only at hki hln hbf hcp hz1 hz2
    rw [show nm.data.toList.length = nm.size from Array.length_toList] at hz1
    rw [show ev.data.toList.length = ev.size from Array.length_toList] at hz2
    obtain ⟨j, hj⟩ : ∃ j : Nat, kd = (j : Int) := ⟨kd.toNat, by omega⟩
    subst hj
    have hj0 : (0 : Int) ≤ (j : Int) := Int.natCast_nonneg _
    have hj4 : (j : Int) < 4 := by omega
    obtain ⟨kw, hkw⟩ : ∃ z, bm (kindsL.getD j []) = z := ⟨_, rfl⟩
    have HKW : Hid (kw = bm (kindW (j : Int))) := Lib.hid (by rw [← hkw]; exact kindW_bm rfl)
    have hz3 : kw.size ≤ 5 := by
     rw [HKW.out]
     have h9 := kindW_len (k := (j : Int)) (by omega)
     simpa [bm, ByteArray.size] using h9
    obtain ⟨sl, hqsl⟩ : ∃ z, stB (itoaS ln) = z := ⟨_, rfl⟩
    have hzsl : sl.size ≤ 14 := by rw [← hqsl, stB_size]; exact itoaS_length (by omega)
    have HIsl := Lib.hid (fun W9 t9 => (by have h9 := itoaI_at (ln) (by omega) (by omega) W9 t9; rw [hqsl] at h9; exact h9 : Calls Tryd.prog 16 #[.int .i64 (ln)] W9 fun e w' => e = .returned (.string sl) ∧ Below W9.heap.size W9 w'))
    have HQsl := Lib.hid hqsl
    clear hqsl
    obtain ⟨sb, hqsb⟩ : ∃ z, stB (itoaS bf) = z := ⟨_, rfl⟩
    have hzsb : sb.size ≤ 14 := by rw [← hqsb, stB_size]; exact itoaS_length (by omega)
    have HIsb := Lib.hid (fun W9 t9 => (by have h9 := itoaI_at (bf) (by omega) (by omega) W9 t9; rw [hqsb] at h9; exact h9 : Calls Tryd.prog 16 #[.int .i64 (bf)] W9 fun e w' => e = .returned (.string sb) ∧ Below W9.heap.size W9 w'))
    have HQsb := Lib.hid hqsb
    clear hqsb
    obtain ⟨sc, hqsc⟩ : ∃ z, stB (itoaS cp) = z := ⟨_, rfl⟩
    have hzsc : sc.size ≤ 14 := by rw [← hqsc, stB_size]; exact itoaS_length (by omega)
    have HIsc := Lib.hid (fun W9 t9 => (by have h9 := itoaI_at (cp) (by omega) (by omega) W9 t9; rw [hqsc] at h9; exact h9 : Calls Tryd.prog 16 #[.int .i64 (cp)] W9 fun e w' => e = .returned (.string sc) ∧ Below W9.heap.size W9 w'))
    have HQsc := Lib.hid hqsc
    clear hqsc
    have HLB : Hid (nm ++ (⟨#[32]⟩ : ByteArray) ++ kw ++ (⟨#[32]⟩ : ByteArray) ++ ev ++ (⟨#[32]⟩ : ByteArray) ++ sl ++ (⟨#[32]⟩ : ByteArray) ++ sb ++ (⟨#[32]⟩ : ByteArray) ++ sc ++ (⟨#[10]⟩ : ByteArray) = stB (lineM ⟨nm, (j : Int), ev, ln, bf, cp⟩)) := Lib.hid (by
     rw [← HQsl.out, ← HQsb.out, ← HQsc.out]
     exact lineC (m := ⟨nm, (j : Int), ev, ln, bf, cp⟩) HKW.out)
    have hb6 := ext_trans (ext_trans hb1 hbr) hbX
    have hs1 : (⟨#[32]⟩ : ByteArray).size = 1 := rfl
    have hs2 : (⟨#[10]⟩ : ByteArray).size = 1 := rfl
    refine Grow.wp_region_grow 31 [TP.eq (.string st), TP.eq (.pointer (some ⟨wr.heap.size, 0, none⟩)), TP.eq (.string nm), TP.eq (.string (nm ++ (⟨#[32]⟩ : ByteArray))), TPkd, TP.eq (.pointer (some ⟨wr.heap.size, 1, none⟩)), TP.eq (.int .i64 ((j : Int))), TPpk j, TP.eq (.string kw), TP.eq (.string (nm ++ (⟨#[32]⟩ : ByteArray) ++ kw)), TP.eq (.string (nm ++ (⟨#[32]⟩ : ByteArray) ++ kw ++ (⟨#[32]⟩ : ByteArray))), TP.eq (.pointer (some ⟨wr.heap.size, 2, none⟩)), TP.eq (.string ev), TP.eq (.string (nm ++ (⟨#[32]⟩ : ByteArray) ++ kw ++ (⟨#[32]⟩ : ByteArray) ++ ev)), TP.eq (.string (nm ++ (⟨#[32]⟩ : ByteArray) ++ kw ++ (⟨#[32]⟩ : ByteArray) ++ ev ++ (⟨#[32]⟩ : ByteArray))), TP.eq (.pointer (some ⟨wr.heap.size, 3, none⟩)), TP.eq (.int .i64 (ln)), TP.eq (.string sl), TP.eq (.string (nm ++ (⟨#[32]⟩ : ByteArray) ++ kw ++ (⟨#[32]⟩ : ByteArray) ++ ev ++ (⟨#[32]⟩ : ByteArray) ++ sl)), TP.eq (.string (nm ++ (⟨#[32]⟩ : ByteArray) ++ kw ++ (⟨#[32]⟩ : ByteArray) ++ ev ++ (⟨#[32]⟩ : ByteArray) ++ sl ++ (⟨#[32]⟩ : ByteArray))), TP.eq (.pointer (some ⟨wr.heap.size, 4, none⟩)), TP.eq (.int .i64 (bf)), TP.eq (.string sb), TP.eq (.string (nm ++ (⟨#[32]⟩ : ByteArray) ++ kw ++ (⟨#[32]⟩ : ByteArray) ++ ev ++ (⟨#[32]⟩ : ByteArray) ++ sl ++ (⟨#[32]⟩ : ByteArray) ++ sb)), TP.eq (.string (nm ++ (⟨#[32]⟩ : ByteArray) ++ kw ++ (⟨#[32]⟩ : ByteArray) ++ ev ++ (⟨#[32]⟩ : ByteArray) ++ sl ++ (⟨#[32]⟩ : ByteArray) ++ sb ++ (⟨#[32]⟩ : ByteArray))), TP.eq (.pointer (some ⟨wr.heap.size, 5, none⟩)), TP.eq (.int .i64 (cp)), TP.eq (.string sc), TP.eq (.string (nm ++ (⟨#[32]⟩ : ByteArray) ++ kw ++ (⟨#[32]⟩ : ByteArray) ++ ev ++ (⟨#[32]⟩ : ByteArray) ++ sl ++ (⟨#[32]⟩ : ByteArray) ++ sb ++ (⟨#[32]⟩ : ByteArray) ++ sc)), TP.eq (.string (nm ++ (⟨#[32]⟩ : ByteArray) ++ kw ++ (⟨#[32]⟩ : ByteArray) ++ ev ++ (⟨#[32]⟩ : ByteArray) ++ sl ++ (⟨#[32]⟩ : ByteArray) ++ sb ++ (⟨#[32]⟩ : ByteArray) ++ sc ++ (⟨#[10]⟩ : ByteArray))), TP.eq (.string (st ++ (nm ++ (⟨#[32]⟩ : ByteArray) ++ kw ++ (⟨#[32]⟩ : ByteArray) ++ ev ++ (⟨#[32]⟩ : ByteArray) ++ sl ++ (⟨#[32]⟩ : ByteArray) ++ sb ++ (⟨#[32]⟩ : ByteArray) ++ sc ++ (⟨#[10]⟩ : ByteArray))))] [[], [], [1], [2], [], [], [5], [4, 6], [7], [3, 8], [9], [], [11], [10, 12], [13], [], [15], [16], [14, 17], [18], [], [20], [21], [19, 22], [23], [], [25], [26], [24, 27], [28], [0, 29]] (by kernel_rfl) (by kernel_rfl) ⟨?o0g, ?o1g, ?o2g, ?o3g, ?o4g, ?o5g, ?o6g, ?o7g, ?o8g, ?o9g, ?o10g, ?o11g, ?o12g, ?o13g, ?o14g, ?o15g, ?o16g, ?o17g, ?o18g, ?o19g, ?o20g, ?o21g, ?o22g, ?o23g, ?o24g, ?o25g, ?o26g, ?o27g, ?o28g, ?o29g, ?o30g, trivial⟩ ?_
    case o0g | o1g | o5g | o11g | o15g | o20g | o25g =>
     intro w' hb
     show wpList _ _ _ _ _ _
     go_wp2
     exact ⟨rfl, Below.refl _ _, rfl⟩
    case o2g | o6g | o12g | o16g | o21g | o26g =>
     intro w' hb v1 hv1
     obtain rfl : v1 = _ := hv1
     have c0' := zzc hb c0
     have c1' := zzc hb c1
     have c2' := zzc hb c2
     have c3' := zzc hb c3
     have c4' := zzc hb c4
     have c5' := zzc hb c5
     show wpList _ _ _ _ _ _
     simp only [Grow.dstOf, zz1, zz2, zz3, zz4, Act.put, zz5, zz6, zz7]
     go_wp2
     exact ⟨rfl, Below.refl _ _, rfl⟩
    case o3g | o10g | o14g | o19g | o24g | o29g =>
     intro w' hb v1 hv1
     obtain rfl : v1 = _ := hv1
     show wpList _ _ _ _ _ _
     simp only [Grow.dstOf, zz1, zz2, zz3, zz4, Act.put, zz5, zz6, zz7]
     go_wp2
     exact ⟨rfl, Below.refl _ _, rfl⟩
    case o4g =>
     intro w' hb
     show wpList _ _ _ _ _ _
     go_wp2_with fail
     refine (words_at w').mono ?_
     rintro e wz ⟨vk, rfl, hkd, hbz⟩
     go_wp2
     exact ⟨hkd, hbz, rfl⟩
    case o7g =>
     intro w' hb v1 hv1 v2 hv2
     have hv1' : KdV w' v1 := hv1
     clear hv1
     obtain rfl : v2 = _ := hv2
     obtain ⟨bk, rfl, hkc⟩ := hv1'
     have ek := hkc j (by omega)
     show wpList _ _ _ _ _ _
     simp only [Grow.dstOf, zz1, zz2, zz3, zz4, Act.put, zz5, zz6, zz7]
     go_wp2
     exact ⟨⟨_, rfl, ek⟩, Below.refl _ _, rfl⟩
    case o8g =>
     intro w' hb v1 hv1
     have hv1' : ∃ b, v1 = .pointer (some ⟨b, j, none⟩) ∧ w'.cell? ⟨b, j, none⟩ = some (.string (bm (kindsL.getD j []))) := hv1
     clear hv1
     obtain ⟨bk, rfl, ek⟩ := hv1'
     rw [hkw] at ek
     show wpList _ _ _ _ _ _
     simp only [Grow.dstOf, zz1, zz2, zz3, zz4, Act.put, zz5, zz6, zz7]
     go_wp2
     exact ⟨rfl, Below.refl _ _, rfl⟩
    case o9g | o13g | o18g | o23g | o28g | o30g =>
     intro w' hb v1 hv1 v2 hv2
     obtain rfl : v1 = _ := hv1
     obtain rfl : v2 = _ := hv2
     show wpList _ _ _ _ _ _
     simp only [Grow.dstOf, zz1, zz2, zz3, zz4, Act.put, zz5, zz6, zz7]
     go_wp2
     exact ⟨rfl, Below.refl _ _, rfl⟩
    case o17g =>
     intro w' hb v1 hv1
     obtain rfl : v1 = _ := hv1
     show wpList _ _ _ _ _ _
     simp only [Grow.dstOf, zz1, zz2, zz3, zz4, Act.put, zz5, zz6, zz7]
     go_wp2_with fail
     refine (HIsl.out w' (HT0.out.ext (ext_trans hb6 hb))).mono ?_
     rintro e wz ⟨rfl, hbz⟩
     go_wp2
     exact ⟨rfl, hbz, rfl⟩
    case o22g =>
     intro w' hb v1 hv1
     obtain rfl : v1 = _ := hv1
     show wpList _ _ _ _ _ _
     simp only [Grow.dstOf, zz1, zz2, zz3, zz4, Act.put, zz5, zz6, zz7]
     go_wp2_with fail
     refine (HIsb.out w' (HT0.out.ext (ext_trans hb6 hb))).mono ?_
     rintro e wz ⟨rfl, hbz⟩
     go_wp2
     exact ⟨rfl, hbz, rfl⟩
    case o27g =>
     intro w' hb v1 hv1
     obtain rfl : v1 = _ := hv1
     show wpList _ _ _ _ _ _
     simp only [Grow.dstOf, zz1, zz2, zz3, zz4, Act.put, zz5, zz6, zz7]
     go_wp2_with fail
     refine (HIsc.out w' (HT0.out.ext (ext_trans hb6 hb))).mono ?_
     rintro e wz ⟨rfl, hbz⟩
     go_wp2
     exact ⟨rfl, hbz, rfl⟩
    intro W7 hbz u0 hu0 u1 hu1 u2 hu2 u3 hu3 u4 hu4 u5 hu5 u6 hu6 u7 hu7 u8 hu8 u9 hu9 u10 hu10 u11 hu11 u12 hu12 u13 hu13 u14 hu14 u15 hu15 u16 hu16 u17 hu17 u18 hu18 u19 hu19 u20 hu20 u21 hu21 u22 hu22 u23 hu23 u24 hu24 u25 hu25 u26 hu26 u27 hu27 u28 hu28 u29 hu29 u30 hu30
    obtain rfl : u30 = _ := hu30
    clear hu0 hu1 hu2 hu3 hu4 hu5 hu6 hu7 hu8 hu9 hu10 hu11 hu12 hu13 hu14 hu15 hu16 hu17 hu18 hu19 hu20 hu21 hu22 hu23 hu24 hu25 hu26 hu27 hu28 hu29
    have hb7 := ext_trans hbr (ext_trans hbX hbz)
    obtain ⟨s2, hs9⟩ : ∃ z, st ++ (nm ++ (⟨#[32]⟩ : ByteArray) ++ kw ++ (⟨#[32]⟩ : ByteArray) ++ ev ++ (⟨#[32]⟩ : ByteArray) ++ sl ++ (⟨#[32]⟩ : ByteArray) ++ sb ++ (⟨#[32]⟩ : ByteArray) ++ sc ++ (⟨#[10]⟩ : ByteArray)) = z := ⟨_, rfl⟩
    have HS2 : Hid (s2 = stB (textM (l.take (k + 1)))) := Lib.hid (by rw [← hs9, HLB.out, HSS.out, HTK.out, stB_app])
    rw [hs9]
    clear hb6 hbX hbz hbr c0 c1 c2 c3 c4 c5 hs9
    show wpList _ _ _ _ _ _
    simp only [Act.put, zz5, zz6, zz7]
    go_wp2
    go_roundw
    case rel => exact ⟨k + 1, s2, by omega, rfl, by go_num, HS2, hb7⟩
    case measure => simp [intOf]; omega
   ·have HST : Hid (st = txS l) := Lib.hid (by rw [HTX.out, HSS.out, List.take_of_length_le (by omega)])
    have hb9 := ext_trans hb1 hbr
    go_wp2
    exact bodyPost_ret (v := .tuple #[.string st, .int .i64 0]) (by simp [results, Tryd.results8, go_sem]) rfl ⟨by rw [HST.out, HF.out], hb9⟩
 ·have hne : (f != 0) = true := by simpa using h0
  have HN : Hid (⟨#[]⟩ = txS l) := Lib.hid (by unfold txS txM; rw [if_neg (by rw [HF.out]; exact h0)]; rfl)
  clear h0
  go_wp2
  exact bodyPost_ret (v := .tuple #[.string ⟨#[]⟩, .int .i64 f]) (by simp [results, Tryd.results8, go_sem]) rfl ⟨by rw [← HN.out, HF.out], hb1⟩
end Tx
end Go.Proofs.YteaaibpanocgaaaDoor
