/- slices.Equal at metrics that are the same. checkAll of package metric, checkList of the reference. Printed by gen_mtc.py. (Spl's cut without versions) A text cut at the first byte c: the library's Cut at the seat, in plain words. Read of package metric and of the reference: a text's lines. Printed by gen_mtd.py. WriteString of a strings.Builder of the call's own (the builder's other methods stand in the shelf). -/
import Derived.Test.YteaaibpanocgaaaDoorMt00
import Derived.Test.YteaaibpanocgaaaDoorMt03
import Derived.Deep.QuietTactic
import Derived.BigQuiet
import Derived.Test.YteaaibpanocgaaaDoorMt01
import Derived.Deep.Cut
import Derived.Test.YteaaibpanocgaaaDoorMt07
import Derived.Test.YteaaibpanocgaaaDoorMt05
import Derived.Test.YteaaibpanocgaaaDoorMt06
import Derived.Test.YteaaibpanocgaaaDoorProg
import Derived.Lib.Strings
import Derived.Lib.Walk
import Derived.Lib.Builder
import Derived.Lib.AppendStr
import Derived.WalkKit
import Derived.Laws.Externs
namespace Go.Proofs.YteaaibpanocgaaaDoor
open Go.RowKit
def metL (m : Met) : List Value := (metC m).toList
theorem metL_len (m : Met) : (metL m).length = 6 := rfl
set_option maxRecDepth 100000 in
set_option maxHeartbeats 8000000 in
theorem equal_mets (l : List Met) (a a' : Option Addr) (c c' : Nat) (w : World) (s1 : Sl w (.slice a l.length c) l.length (l.flatMap metL)) (s2 : Sl w (.slice a' l.length c') l.length (l.flatMap metL)) :
    Calls Tryd.prog 11 #[.slice a l.length c, .slice a' l.length c'] w fun e w' => e = .returned (.bool true) ∧ Below w.heap.size w w' := by
  have hl : l.length ≤ 9223372036854775807 := by obtain ⟨_, _, hv, h1, h2, _⟩ := s1; cases hv; unfold maxLen at h2; omega
  have hne : ((l.length : Int) != (l.length : Int)) = false := by simp
  go_enter Tryd.func11, Tryd.ntmps11
  go_wp2
  go_loopw [13] (fun i wr => ∃ k : Nat, k ≤ l.length ∧ i = .int .i64 k ∧ Below w.heap.size w wr) (fun i _ => l.length - (intOf i).toNat)
  case atStart => exact ⟨0, by omega, rfl, Below.refl _ _⟩
  case round =>
    obtain ⟨k, hk, rfl, hb⟩ := hrel
    by_cases hlt : k < l.length
    · have hgk := List.getElem?_eq_getElem hlt
      generalize l[k] = s at hgk
      obtain ⟨b, o, rfl, hcs⟩ := (s1.ext hb).elem metL_len (by omega : 0 < 6) hgk
      obtain ⟨b', o', rfl, hcs'⟩ := (s2.ext hb).elem metL_len (by omega : 0 < 6) hgk
      have e0 := hcs 0 _ rfl
      have f0 := hcs' 0 _ rfl
      have e1 := hcs 1 _ rfl
      have f1 := hcs' 1 _ rfl
      have e2 := hcs 2 _ rfl
      have f2 := hcs' 2 _ rfl
      have e3 := hcs 3 _ rfl
      have f3 := hcs' 3 _ rfl
      have e4 := hcs 4 _ rfl
      have f4 := hcs' 4 _ rfl
      have e5 := hcs 5 _ rfl
      have f5 := hcs' 5 _ rfl
      rw [Nat.add_zero] at e0 f0
      clear hcs hcs' hgk
      have hi0 : (0 : Int) ≤ (k : Int) := Int.natCast_nonneg _
      have hi1 : (k : Int) < (l.length : Int) := by omega
      go_wp2_with fail
      go_quiet (fail)
      go_wp2
      exact ⟨⟨k + 1, by omega, by go_num, below_drewN hb _⟩, by simp [intOf]; omega⟩
    · go_wp2
      go_ret
      exact ⟨rfl, hb⟩

end Go.Proofs.YteaaibpanocgaaaDoor
namespace Go.Proofs.YteaaibpanocgaaaDoor
open Go.RowKit
namespace Tx
theorem leq_not (a b : ByteArray) : (Op.bytesLess a.toList b.toList || a.toList == b.toList) = !Op.bytesLess b.toList a.toList := by
 have e1 : ∀ x y : ByteArray, Op.bytesLess x.toList y.toList = decide (cmpS x y = -1) := fun x y => by
  rw [ByteArray.toList_eq, ByteArray.toList_eq, less_iff, decide_eq_decide]
  have := cmpS_tri x y
  unfold cmpS at *
  omega
 have e2 : (a.toList == b.toList) = decide (cmpS a b = 0) := by
  rw [ByteArray.toList_eq, ByteArray.toList_eq, Bool.eq_iff_iff]
  simp only [beq_iff_eq, decide_eq_true_eq]
  exact ⟨fun h => by unfold cmpS; rw [h]; exact compare_self _, fun h => compare_zero h⟩
 rw [e1, e1, e2, cmpS_anti a b, Bool.eq_iff_iff]
 have := cmpS_tri a b
 simp only [Bool.or_eq_true, decide_eq_true_eq, Bool.not_eq_true', decide_eq_false_iff_not]
 omega
set_option maxRecDepth 100000 in
set_option maxHeartbeats 8000000 in
theorem checkAll_at (l : List Met) (hok : ∀ m ∈ l, m.ok) (a : Option Addr) (c : Nat) (w : World) (hs : Sl w (.slice a l.length c) l.length (l.flatMap metL)) :
  Calls Tryd.prog 15 #[.slice a l.length c] w fun e w' => e = .returned (.int .i64 (chkM l)) ∧ Below w.heap.size w w' := by
 have hl : l.length ≤ 9223372036854775807 := by obtain ⟨_, _, hv, h1, h2, _⟩ := hs; cases hv; unfold maxLen at h2; omega
 have HOK := Lib.hid hok
 have HS := Lib.hid hs
 clear hok hs
 go_enter Tryd.func15, Tryd.ntmps15
 by_cases h50 : 50 < l.length
 ·have HN : Hid (chkM l = 2) := Lib.hid (if_pos h50)
  have h50' : (50 : Int) < (l.length : Int) := by omega
  clear h50
  go_wp2
  go_ret
  exact ⟨ret_int HN.out.symm, Below.refl _ _⟩
 ·have HST := Lib.hid (chk_start h50)
  have h50' : ¬ (50 : Int) < (l.length : Int) := by omega
  clear h50
  go_wp2
  go_loopw [11] (fun i wr => ∃ k : Nat, k ≤ l.length ∧ i = .int .i64 k ∧ Hid (chkM l = chkLs (preN l k) (l.drop k)) ∧ Below w.heap.size w wr) (fun i _ => l.length - (intOf i).toNat)
  case atStart => exact ⟨0, by omega, rfl, HST, Below.refl _ _⟩
  case round =>
   obtain ⟨k, hk, rfl, HK, hb⟩ := hrel
   by_cases hlt : k < l.length
   ·have hgk := List.getElem?_eq_getElem hlt
    have hmm := HOK.out _ (List.getElem_mem hlt)
    generalize l[k] = m at hgk hmm
    have HG := Lib.hid hgk
    have HM := Lib.hid hmm
    obtain ⟨b, o, rfl, hcs⟩ := (HS.out.ext hb).elem metL_len (by omega : 0 < 6) hgk
    have e0 := hcs 0 _ rfl
    have e1 := hcs 1 _ rfl
    have e2 := hcs 2 _ rfl
    have e3 := hcs 3 _ rfl
    have e4 := hcs 4 _ rfl
    have e5 := hcs 5 _ rfl
    rw [Nat.add_zero] at e0
    have hk0 : (0 : Int) ≤ (k : Int) := Int.natCast_nonneg _
    have hk1 : (k : Int) < (l.length : Int) := by omega
    clear hcs hgk hmm
    go_upto_region 6 with (fail)
    clear e0 e1 e2 e3 e4 e5
    refine wp_box1 fun X hszX hbX hS => ?_
    obtain ⟨_, hS2⟩ := id hS
    go_wp2_with fail
    refine (metric_Check m HM.out _).mono ?_
    rintro e w2 ⟨rfl, hb2⟩
    have hS3 := hS.ext hb2
    have hb4 := ext_trans hb (ext_trans hbX hb2)
    have HCS := Lib.hid (chk_step HG.out)
    obtain ⟨f, hf⟩ : ∃ z, checkM m = z := ⟨_, rfl⟩
    rw [hf] at HCS ⊢
    clear hS2 hS hbX hb2 hf
    by_cases h0 : f = 0
    ·subst h0
     have HC2 : Hid (chkLs (preN l k) (l.drop k) = if ordB (preN l k) m.name = false then 8 else chkLs (preN l (k + 1)) (l.drop (k + 1))) := Lib.hid (HCS.out.trans (if_neg (by decide)))
     clear HCS
     obtain ⟨nm, hnm⟩ : ∃ z, m.name = z := ⟨_, rfl⟩
     obtain ⟨_, hS4⟩ := id hS3
     have c0 := (hS4 0).trans (show (metC m)[0]? = some (.string m.name) from rfl)
     rw [hnm] at c0 HC2
     clear hnm hS4
     by_cases hz : k = 0
     ·subst hz
      have HK2 : Hid (chkM l = chkLs (preN l 1) (l.drop 1)) := Lib.hid (HK.out.trans (HC2.out.trans (if_neg (by rw [preN_zero]; simp [ordB]))))
      clear HK HC2
      go_wp2_with fail
      go_quiet (fail)
      go_wp2
      go_roundw
      case rel => exact ⟨1, by omega, by go_num, HK2, below_drewN hb4 _⟩
      case measure => simp [intOf]; omega
     ·have hkp : k - 1 < l.length := by omega
      have hgp := List.getElem?_eq_getElem hkp
      generalize l[k - 1] = p at hgp
      have HGP := Lib.hid hgp
      have HORD := Lib.hid (ord_prev hz hgp nm)
      obtain ⟨b', o', ea, hcs'⟩ := (HS.out.ext hb4).elem metL_len (by omega : 0 < 6) hgp
      cases ea
      have f0 := hcs' 0 _ rfl
      rw [Nat.add_zero] at f0
      have hpos : (0 : Int) < (k : Int) := by omega
      have hkm : (k : Int) - 1 = ((k - 1 : Nat) : Int) := by omega
      obtain ⟨j, hj⟩ : ∃ j, k - 1 = j := ⟨_, rfl⟩
      have hkj : k = j + 1 := by omega
      obtain ⟨pn, hpn⟩ : ∃ z, p.name = z := ⟨_, rfl⟩
      rw [hpn] at HORD f0
      rw [hj] at f0 hkm
      clear hcs' hgp hpn hj
      go_wp2_with fail
      go_quiet (fail)
      rw [leq_not]
      obtain ⟨bb, hbb⟩ : ∃ z, Op.bytesLess pn.toList nm.toList = z := ⟨_, rfl⟩
      rw [hbb] at HORD ⊢
      clear hbb
      cases bb
      ·have HN : Hid (chkM l = 8) := Lib.hid (HK.out.trans (HC2.out.trans (if_pos HORD.out)))
       clear HK HC2 HORD
       go_wp2
       go_ret
       exact ⟨ret_int HN.out.symm, below_drewN hb4 _⟩
      ·have HK2 : Hid (chkM l = chkLs (preN l (k + 1)) (l.drop (k + 1))) := Lib.hid (HK.out.trans (HC2.out.trans (if_neg (by rw [HORD.out]; decide))))
       clear HK HC2 HORD
       go_wp2
       go_roundw
       case rel => exact ⟨k + 1, by omega, by go_num, HK2, below_drewN hb4 _⟩
       case measure => simp [intOf]; omega
    ·have hne : (f != 0) = true := by simpa using h0
     have HN : Hid (chkM l = f) := Lib.hid (HK.out.trans (HCS.out.trans (if_pos h0)))
     clear h0
     go_wp2
     go_ret
     exact ⟨ret_int HN.out.symm, hb4⟩
   ·have HN : Hid (chkM l = 0) := Lib.hid (HK.out.trans (chk_end (by omega)))
    go_wp2
    go_ret
    exact ⟨ret_int HN.out.symm, hb⟩
end Tx
end Go.Proofs.YteaaibpanocgaaaDoor
namespace Go.Proofs.YteaaibpanocgaaaDoor
open Go.RowKit
namespace Tx
open _root_.Go.Proofs.YteaaibpanocgaaaDoor.Nm
theorem cut_is (c : UInt8) (l : List UInt8) : Lib.cut l [c] = ((cut1 c l).1, (cut1 c l).2.getD [], (cut1 c l).2.isSome) := by
  unfold Lib.cut
  by_cases h : c ∈ l
  · obtain ⟨x, r, rfl, hx⟩ := mem_split h
    rw [index_at hx, if_pos (by omega), cut1_app hx]
    simp
  · rw [index_no h, if_neg (by decide), cut1_none h]
    rfl
theorem cut_at (s : ByteArray) (c : UInt8) (hs : s.size < 4294967281) (w : World) (hm : Ml w) : Calls Tryd.prog 23 #[.string s, .string ⟨#[c]⟩] w fun e w' => e = .returned (.tuple #[.string (stB (cut1 c s.data.toList).1), .string (stB ((cut1 c s.data.toList).2.getD [])), .bool (cut1 c s.data.toList).2.isSome]) ∧ Below w.heap.size w w' := by
  obtain ⟨m, hm⟩ := hm
  refine (Tryd.strings_Cut s ⟨#[c]⟩ m w hs hm).mono ?_
  rintro e w' ⟨rfl, n, rfl⟩
  refine ⟨?_, below_drewN' _ _⟩
  rw [show (⟨#[c]⟩ : ByteArray).data.toList = [c] from rfl, cut_is]
  rfl
end Tx
end Go.Proofs.YteaaibpanocgaaaDoor
namespace Go.Proofs.YteaaibpanocgaaaDoor
open Go.RowKit
namespace Tx
theorem met_info : (Tryd.prog.info? 24).map (fun i => (i.zero, i.size, i.bytes)) = some (some (.agg #[.string ⟨#[]⟩, .int .i64 0, .string ⟨#[]⟩, .int .i64 0, .int .i64 0, .int .i64 0]), 6, 64) := by kernel_rfl
def szOf : Value → Nat
 | .string s => s.size
 | _ => 0
/-- what reading lines gives -/
def RdLP (l : List UInt8) (w : World) (e : Ending) (w' : World) : Prop := ∃ v, e = .returned (.tuple #[v, .int .i64 (rdT l).2.1, .int .i64 (rdT l).2.2]) ∧ Sl w' v (rdT l).1.length ((rdT l).1.flatMap metL) ∧ (∀ m ∈ (rdT l).1, m.ok) ∧ Below w.heap.size w w'
theorem rdLP_bad {l : List UInt8} {w w' : World} {v : Value} {i f : Int} (h : rdT l = ([], i, f)) (hv : v = .slice none 0 0) (hb : Below w.heap.size w w') : RdLP l w (.returned (.tuple #[v, .int .i64 i, .int .i64 f])) w' := by
 subst hv
 refine ⟨_, by rw [h], by rw [h]; exact Sl.nil _, ?_, hb⟩
 rw [h]; intro m hm; cases hm
theorem rdLP_good {l : List UInt8} {w w' : World} {v : Value} {a : List Met} (h : rdT l = (a, 0, 0)) (hs : Sl w' v a.length (a.flatMap metL)) (ho : ∀ m ∈ a, m.ok) (hb : Below w.heap.size w w') : RdLP l w (.returned (.tuple #[v, .int .i64 0, .int .i64 0])) w' := by
 refine ⟨v, by rw [h], ?_, ?_, hb⟩
 ·rw [h]; exact hs
 ·rw [h]; exact ho
theorem hem_of {s : ByteArray} (h : s.size ≠ 0) : (s.toList == []) = false := by
 have hl : s.data.toList.length = s.size := Array.length_toList
 rw [ByteArray.toList_eq]
 cases hq : s.data.toList with
 | nil => rw [hq] at hl; simp at hl; omega
 | cons _ _ => rfl
theorem nil_of {s : ByteArray} (h : s.size = 0) : s.data.toList = [] := List.eq_nil_of_length_eq_zero (by rw [show s.data.toList.length = s.size from Array.length_toList]; exact h)
set_option maxRecDepth 100000 in
set_option maxHeartbeats 16000000 in
theorem mtRead_at (s : ByteArray) (hs : s.size ≤ 1048576) (w : World) (he : Er w) (ht : Tb w) (hm : Ml w) : Calls Tryd.prog 9 #[.string s] w (RdLP s.data.toList w) := by
 have HS := Lib.hid hs
 have Hhe := Lib.hid he
 have Hht := Lib.hid ht
 have Hhm := Lib.hid hm
 clear hs he ht hm
 have HP := Lib.hid met_info
 go_enter Tryd.func9, Tryd.ntmps9
 go_wp2
 go_loopw [0, 5, 6] (fun v0 v5 v6 wr => ∃ (tx : ByteArray) (acc : List Met) (n : Nat), v0 = .string tx ∧ v6 = .int .i64 ((n : Int) + 1) ∧ Hid (acc.length = n) ∧ wr.ownsRow w.heap.size 24 6 v5 n (acc.flatMap metL) ∧ Hid (rdLs 1 (cutL 10 s.data.toList) = apM acc (rdLs (n + 1) (cutL 10 tx.data.toList))) ∧ Hid (∀ m ∈ acc, m.ok) ∧ n + tx.size ≤ s.size ∧ Below w.heap.size w wr) (fun v0 _ _ _ => szOf v0)
 case atStart => exact ⟨s, [], 0, rfl, rfl, rfl, World.ownsRow_nil _ _ _ _, Lib.hid (apM_nil _).symm, Lib.hid (fun m hm => by cases hm), by omega, Below.refl _ _⟩
 case round =>
  obtain ⟨tx, acc, n, rfl, rfl, HLN, hown, HR, HOK, hsz, hb⟩ := hrel
  have hn20 : n ≤ 1048576 := by have := HS.out; omega
  by_cases h0 : tx.size = 0
  ·have hnil := nil_of h0
   have hem : (tx.toList == []) = true := by rw [ByteArray.toList_eq, hnil]; rfl
   have hem3 : tx.toList = [] := by rw [ByteArray.toList_eq, hnil]
   have HA : Hid (rdT s.data.toList = if chkM acc = 0 then (acc, 0, 0) else ([], 0, chkM acc)) := Lib.hid (rdT_all (by rw [HR.out, hnil, rdLs_end]; show Sum.inl (acc ++ []) = _; rw [List.append_nil]))
   obtain rfl : acc.length = n := HLN.out
   have hsl := Sl.ofOwn hown
   obtain ⟨a5, c5, rfl, -⟩ := id hsl
   have HSL := Lib.hid hsl
   clear hnil hsl hown HR HLN h0
   go_wp2_with fail
   refine (checkAll_at acc HOK.out a5 c5 wr HSL.out).mono ?_
   rintro e w2 ⟨rfl, hb2⟩
   have HSL2 := Lib.hid (HSL.out.ext hb2)
   have hb3 := ext_trans hb hb2
   obtain ⟨f, hf⟩ : ∃ z, chkM acc = z := ⟨_, rfl⟩
   rw [hf] at HA ⊢
   clear hf hb2 HSL hb
   by_cases h0 : f = 0
   ·subst h0
    have HN := Lib.hid (HA.out.trans (if_pos rfl))
    clear HA
    go_wp2
    exact bodyPost_ret (v := .tuple #[.slice a5 acc.length c5, .int .i64 0, .int .i64 0]) (by simp [results, Tryd.results9, go_sem]) rfl (rdLP_good HN.out HSL2.out HOK.out hb3)
   ·have hne : (f != 0) = true := by simpa using h0
    have HN := Lib.hid (HA.out.trans (if_neg h0))
    clear HA h0
    go_wp2
    exact bodyPost_ret (v := .tuple #[.slice none 0 0, .int .i64 0, .int .i64 f]) (by simp [results, Tryd.results9, go_sem]) rfl (rdLP_bad HN.out rfl hb3)
  ·have hem := hem_of h0
   have hem3 : ¬ (tx.toList = []) := fun h => by rw [h] at hem; cases hem
   have hne : tx.data.toList ≠ [] := fun h => hem3 (by rw [ByteArray.toList_eq]; exact h)
   obtain ⟨hd, tl, hc⟩ : ∃ hd tl, cut1 10 tx.data.toList = (hd, tl) := ⟨_, _, rfl⟩
   have HC := Lib.hid hc
   have HNE := Lib.hid hne
   have hlen := cut1_size hc
   rw [show tx.data.toList.length = tx.size from Array.length_toList] at hlen
   have HLEN := Lib.hid hlen
   clear hne hlen h0
   go_wp2_with fail
   refine (cut_at tx 10 (by have := HS.out; omega) wr (Hhm.out.ext hb)).mono ?_
   rintro e w1 ⟨rfl, hb1⟩
   rw [hc]
   have hown1 := ownsRow_ext hown hb1
   clear hc hown
   go_wp2_with fail
   refine (mtread_at (stB hd) (by rw [stB_size]; have := HS.out; have := HLEN.out.1; omega) w1 (Hhe.out.ext (ext_trans hb hb1)) (Hht.out.ext (ext_trans hb hb1)) (Hhm.out.ext (ext_trans hb hb1))).mono ?_
   rintro e w2 ⟨x, b, rfl, hx, hcs, hb2⟩
   have HX := Lib.hid hx
   have HCS : Hid ((readM hd = some x ∧ b = true) ∨ (readM hd = none ∧ b = false)) := Lib.hid hcs
   have hown2 := ownsRow_ext hown1 hb2
   have hb4 := ext_trans hb (ext_trans hb1 hb2)
   clear hx hcs hown1 hb1 hb2 hb
   go_upto_region 7 with (fail)
   refine wp_box1 fun X hszX hbX hA => ?_
   have hown3 := ownsRow_ext hown2 hbX
   have hb5 := ext_trans hb4 hbX
   have hsz5 := hb5.size
   clear hown2 hb4 hbX hszX
   cases b
   ·have HN : Hid (rdT s.data.toList = ([], (n : Int) + 1, 10)) := Lib.hid (rdT_line (i := n + 1) (by
     rw [HR.out]
     have hq : readM hd = none := by rcases HCS.out with ⟨_, h⟩ | ⟨h, _⟩; cases h; exact h
     cases tl with
     | none => rw [rdLs_last HNE.out HC.out]; rfl
     | some r => rw [rdLs_bad HC.out hq]; rfl))
    clear HR HCS hown3
    go_wp2
    exact bodyPost_ret (v := .tuple #[.slice none 0 0, .int .i64 ((n : Int) + 1), .int .i64 10]) (by simp [results, Tryd.results9, go_sem]) rfl (rdLP_bad HN.out rfl hb5)
   ·have HQ : Hid (readM hd = some x) := Lib.hid (by rcases HCS.out with ⟨h, _⟩ | ⟨_, h⟩; exact h; cases h)
    clear HCS
    cases tl with
    | none =>
     have HN : Hid (rdT s.data.toList = ([], (n : Int) + 1, 10)) := Lib.hid (rdT_line (i := n + 1) (by rw [HR.out, rdLs_last HNE.out HC.out]; rfl))
     clear HR hown3
     simp only [Option.getD_none, Option.isSome_none]
     go_wp2
     exact bodyPost_ret (v := .tuple #[.slice none 0 0, .int .i64 ((n : Int) + 1), .int .i64 10]) (by simp [results, Tryd.results9, go_sem]) rfl (rdLP_bad HN.out rfl hb5)
    | some r =>
     have HR2 : Hid (rdLs 1 (cutL 10 s.data.toList) = apM (acc ++ [x]) (rdLs (n + 1 + 1) (cutL 10 r))) := Lib.hid (by rw [HR.out, rdLs_more HC.out HQ.out, apM_more])
     have hr : (stB r).size < tx.size := by rw [stB_size]; exact HLEN.out.2 r rfl
     clear HR HQ HC
     simp only [Option.getD_some, Option.isSome_some]
     obtain ⟨_, hA2⟩ := id hA
     clear hA
     go_wp2_with (at_builtin; refine wpList_append_sl rfl _ _ 22 rfl w.heap.size 24 Tryd.underlying22 HP.out rfl (by decide) rfl (ownsRow_ext hown3 (ext_alloc _ _)) rfl (Sl.new X _ _ 1 1 (by omega) (by decide)) rfl (by intro u hu; simp at hu; rcases hu with rfl | rfl | rfl | rfl | rfl | rfl <;> rfl) (by unfold maxLen; omega) (by omega) (by simp; omega) ?_; intro v7 w7 hown7 hg7 _)
     have hL : acc.flatMap metL ++ metL x = (acc ++ [x]).flatMap metL := by rw [List.flatMap_append]; simp
     have hown8 : w7.ownsRow w.heap.size 24 6 v7 (n + 1) ((acc ++ [x]).flatMap metL) := by rw [← hL]; exact hown7
     have hb8 : Below w.heap.size w w7 := (ext_trans hb5 (ext_alloc _ _)).grown hg7 (by simp; omega) (fun q hq => (hown3.lt q hq).1)
     have HLN2 : Hid ((acc ++ [x]).length = n + 1) := Lib.hid (by rw [List.length_append, HLN.out]; rfl)
     have HOK2 : Hid (∀ m ∈ acc ++ [x], m.ok) := Lib.hid (fun m hm => by
      rcases List.mem_append.1 hm with hm | hm
      ·exact HOK.out m hm
      ·obtain rfl := List.mem_singleton.1 hm; exact HX.out)
     clear hown7 hg7 hown3 hb5 hL hA2
     go_wp2
     go_roundw
     case rel => exact ⟨stB r, acc ++ [x], n + 1, rfl, by go_num, HLN2, hown8, HR2, HOK2, by omega, hb8⟩
     case measure => exact hr
end Tx
end Go.Proofs.YteaaibpanocgaaaDoor
namespace Go.Proofs.YteaaibpanocgaaaDoor
open Go.RowKit
theorem bld_info : ∃ j, Tryd.prog.info? 40 = some j ∧ j.size = 2 :=
  Option.map_eq_some_iff.1 (show (Tryd.prog.info? 40).map (·.size) = some 2 by kernel_rfl)
theorem bld_lies : liesAt Tryd.prog Tryd.prog.depth 40 (2 / Tryd.prog.cellsOf 40) 0 40 1 = true := by kernel_rfl
theorem byte_info : (Tryd.prog.info? 5).map (fun i => (i.zero, i.size, i.bytes)) = some (some (.int .u8 0), 1, 1) := by kernel_rfl
set_option maxHeartbeats 1000000 in
set_option maxRecDepth 100000 in
theorem bld_check_used (b : Nat) (w : World) (h0 : w.cell? ⟨b, 0, none⟩ = some (.pointer (some ⟨b, 0, none⟩))) :
    Calls Tryd.prog 30 #[.pointer (some ⟨b, 0, none⟩)] w fun e w' => e = .returned (.tuple #[]) ∧ w' = w := by
  obtain ⟨j, hj, _⟩ := bld_info
  go_enter Tryd.func30, Tryd.ntmps30
  go_wp2
  rw [Lib.run_neq_ptr_same w _ Tryd.underlying37 hj]
  go_wp2
  go_end0
  exact ⟨rfl, rfl⟩
set_option maxHeartbeats 1000000 in
set_option maxRecDepth 100000 in
theorem bld_check_fresh (b : Nat) (w : World) (h0 : w.cell? ⟨b, 0, none⟩ = some (.pointer none)) (hsh : w.shape? b = some (40, 2)) (hfz : w.frozen? ⟨b, 0, none⟩ = false) :
    Calls Tryd.prog 30 #[.pointer (some ⟨b, 0, none⟩)] w fun e w' => e = .returned (.tuple #[]) ∧ w' = w.setCell ⟨b, 0, none⟩ (.pointer (some ⟨b, 0, none⟩)) := by
  obtain ⟨j, hj, hjs⟩ := bld_info
  go_enter Tryd.func30, Tryd.ntmps30
  go_wp2
  rw [Lib.run_to_unsafe w ⟨b, 0, none⟩ Tryd.underlying37 Tryd.underlying62 hj (by rw [hjs]; decide) hsh (Nat.zero_lt_succ 1)]
  simp only [Result.andThen]
  rw [Oper.upon_value]
  go_wp2
  rw [run_callFunc_extern Tryd.func41 (by kernel_rfl) (by kernel_rfl) (by kernel_rfl) (e := Extern.AbiNoEscape.same) (by kernel_rfl)]
  rw [Lib.run_noEscape]
  simp only [Result.andThen]
  rw [Oper.upon_value]
  go_wp2
  rw [Lib.run_from_unsafe w ⟨b, 0, none⟩ Tryd.underlying62 Tryd.underlying37 hj hsh bld_lies]
  simp only [Result.andThen]
  rw [Oper.upon_value]
  go_wp2
  go_end0
  exact ⟨rfl, rfl⟩
theorem bld_check (B b : Nat) (bs : List Value) (w : World) (h : Lib.IsBuilder 40 5 B b bs w) :
    Calls Tryd.prog 30 #[.pointer (some ⟨b, 0, none⟩)] w fun e w' => e = .returned (.tuple #[]) ∧ (Lib.BuilderAt 40 5 B b (.pointer (some ⟨b, 0, none⟩)) bs w' ∧ Below B w w') := by
  rcases h with h | h
  · refine (bld_check_fresh b w h.cell0 h.shape h.frozen0).mono ?_
    rintro e w' ⟨rfl, rfl⟩
    exact ⟨rfl, h.used _, (Below.refl B w).setCell (p := ⟨b, 0, none⟩) h.1 _⟩
  · refine (bld_check_used b w h.cell0).mono ?_
    rintro e w' ⟨rfl, rfl⟩
    exact ⟨rfl, h, Below.refl B _⟩
set_option maxHeartbeats 2000000 in
set_option maxRecDepth 100000 in
/-- WriteString, under Go's own limit -/
theorem bld_write (B b : Nat) (bs : List Value) (s : ByteArray) (w : World) (h : Lib.IsBuilder 40 5 B b bs w) (hlen : bs.length + s.size ≤ 140737488355328) (hBw : B ≤ w.heap.size) :
    Calls Tryd.prog 17 #[.pointer (some ⟨b, 0, none⟩), .string s] w fun e w' => e = .returned (.tuple #[.int .i64 s.size, .nilIface]) ∧ (Lib.IsBuilder 40 5 B b (bs ++ Lib.strCells s) w' ∧ Below B w w') := by
  obtain ⟨i0, hi, hz0, hz1, hz2⟩ := info_parts byte_info
  go_enter Tryd.func17, Tryd.ntmps17
  go_wp2_with (go_at_call 30; refine (bld_check B b bs _ h).mono ?_)
  rintro e w1 ⟨rfl, h1, hb1⟩
  obtain ⟨hB, v, hbk, hown, hne⟩ := h1
  have c0 : w1.cell? ⟨b, 0, none⟩ = some (.pointer (some ⟨b, 0, none⟩)) := by rw [Lib.cell_of_heap hbk]; rfl
  have c1 : w1.cell? ⟨b, 1, none⟩ = some v := by rw [Lib.cell_of_heap hbk]; rfl
  go_wp2_with (at_builtin; refine Lib.wpList_append_own_string _ rfl _ _ 38 9 rfl B 5 i0 Tryd.underlying38 Tryd.underlying9 hi hz0 hz1 hz2 _ _ _ rfl hown s rfl ?c3 ?c4 ?c5 ?_)
  case c3 => unfold maxLen; omega
  case c4 => omega
  case c5 => have := hb1.size; omega
  intro v' w2 hown' hgrow _
  have hlt : b < w1.heap.size := by
    rcases Nat.lt_or_ge b w1.heap.size with h' | h'
    · exact h'
    · simp [Array.getElem?_eq_none h'] at hbk
  have hb2 : w2.heap[b]? = some (.cells #[.pointer (some ⟨b, 0, none⟩), v] 40 (0, 0)) := by
    rw [hgrow.block b hlt (fun e => hne e.symm)]
    exact hbk
  have d0 : w2.cell? ⟨b, 0, none⟩ = some (.pointer (some ⟨b, 0, none⟩)) := by rw [Lib.cell_of_heap hb2]; rfl
  have d1 : w2.cell? ⟨b, 1, none⟩ = some v := by rw [Lib.cell_of_heap hb2]; rfl
  have f1 : w2.frozen? ⟨b, 1, none⟩ = false := Lib.frozen_of_heap hb2 1
  obtain ⟨ao, n', cap, rfl⟩ : ∃ ao n' cap, v' = .slice ao n' cap := by
    rcases hown'.2 with ⟨hv, _⟩ | ⟨g, cap, cur, hv, _⟩
    · exact ⟨_, _, _, hv⟩
    · exact ⟨_, _, _, hv⟩
  go_wp2
  go_ret2
  refine ⟨rfl, .inr ?_, ?_⟩
  · exact Lib.BuilderAt.put (T := 40) (e := 5) hB hb2 (bs' := bs ++ Lib.strCells s) (by simpa [Lib.strCells_length] using hown') (by decide)
  · exact (hb1.grown hgrow (by have := hb1.size; omega) (fun k hk => (hown.lt k hk).1)).setCell (p := ⟨b, 1, none⟩) hB _
end Go.Proofs.YteaaibpanocgaaaDoor
