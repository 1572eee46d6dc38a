/- Plain: what is read; the pieces' cells. Printed by gen_mtr.py. Events: Check of package event and the reference's. Plain: an event's text, written and read; what is read is written so, and the other way round. No program stands in it. Numbers in an event's text: number of package event; Number and amount of the reference. Printed by gen_evn.py. Numbers in a metric's text: number of package metric. Printed by gen_mtn.py. Rows of bytes: isBytes of package event, XisRow of package flag; IsRow, IsPlain of the reference. Printed by gen_evs.py. -/
import Derived.Test.YteaaibpanocgaaaDoorMt01
import Derived.Test.YteaaibpanocgaaaDoorMt03
import Derived.Test.YteaaibpanocgaaaDoorMt04
import Derived.Test.YteaaibpanocgaaaDoorMt00
import Derived.Deep.Cut
namespace Go.Proofs.YteaaibpanocgaaaDoor
open Go.RowKit
namespace Tx
open _root_.Go.Proofs.YteaaibpanocgaaaDoor.Nm
open _root_.Go.Proofs.YteaaibpanocgaaaDoor.Nt (RH RH.cell RH.box RH.lt RH.new RH.ext RH.fre RH.set RH.other)
theorem zleM : (⟨#[]⟩ : ByteArray).size ≤ maxLen := by decide
theorem nat_get {o : Option Int} {n : Int} (h1 : o.isSome = true) (h2 : ∀ v, o = some v → v = n) : o = some n := by
 cases o with
 | none => cases h1
 | some v => rw [h2 v rfl]
theorem nat_none {o : Option Int} (h : o.isSome = false) : o = none := by
 cases o with
 | none => rfl
 | some v => cases h
theorem readMW_len {L : List (List UInt8)} (h : L.length ≠ 6) : readMW L = none := by
 rcases L with _ | ⟨a, _ | ⟨b, _ | ⟨c, _ | ⟨d, _ | ⟨k, _ | ⟨m, _ | ⟨z, r⟩⟩⟩⟩⟩⟩⟩
 ·rfl
 ·rfl
 ·rfl
 ·rfl
 ·rfl
 ·rfl
 ·exact absurd rfl h
 ·rfl
theorem readM6_no {a k e x y z : List UInt8} (h : wordsB a = false ∨ wordsB e = false ∨ natO 13 x = none ∨ natO 13 y = none ∨ natO 13 z = none ∨ ¬ 0 < kindI k) : readM6 a k e x y z = none := by
 unfold readM6
 by_cases hq : wordsB a = true ∧ wordsB e = true ∧ 0 < kindI k
 ·rw [if_pos hq]
  rcases h with h | h | h | h | h | h
  ·rw [h] at hq; exact absurd hq.1 (by decide)
  ·rw [h] at hq; exact absurd hq.2.1 (by decide)
  ·rw [h]; rfl
  ·rw [h]; cases natO 13 x <;> rfl
  ·rw [h]; cases natO 13 x <;> cases natO 13 y <;> rfl
  ·exact absurd hq.2.2 h
 ·rw [if_neg hq]
theorem readM6_yes {a k e x y z : List UInt8} {p q r : Int} (hx : natO 13 x = some p) (hy : natO 13 y = some q) (hz : natO 13 z = some r) (ha : wordsB a = true) (he : wordsB e = true) (hk : 0 < kindI k) : readM6 a k e x y z = some ⟨bm a, kindI k, bm e, p, q, r⟩ := by
 unfold readM6
 rw [if_pos ⟨ha, he, hk⟩, hx, hy, hz]
 rfl
/-- the pieces' cells -/
def Pcs (w : World) (pb po : Nat) (l : List ByteArray) : Prop := ∀ k (h : k < l.length), w.cell? ⟨pb, po + k, none⟩ = some (.string l[k])
theorem Pcs.ext {w w' : World} {pb po : Nat} {l : List ByteArray} (h : Pcs w pb po l) (hb : Below w.heap.size w w') : Pcs w' pb po l := fun k hk => (hb.cell (World.block_lt_of_cell? _ _ (h k hk))).trans (h k hk)
theorem Pcs.far {w w' : World} {pb po b : Nat} {A : Array Value} {l : List ByteArray} (h : Pcs w pb po l) (_ : Box w b A) (hn : pb ≠ b) (hk : ∀ p : Addr, p.block ≠ b → w'.cell? p = w.cell? p) : Pcs w' pb po l := fun k h9 => (hk _ hn).trans (h k h9)
theorem Pcs.lt {w : World} {pb po : Nat} {l : List ByteArray} (h : Pcs w pb po l) (hl : 0 < l.length) : pb < w.heap.size := World.block_lt_of_cell? _ _ (h 0 hl)
theorem SlS.pcs {w : World} {a : Option Addr} {l : List ByteArray} {c : Nat} (h : SlS w a l c) (hl : 0 < l.length) : ∃ pb po, a = some ⟨pb, po, none⟩ ∧ Pcs w pb po l := by
 obtain ⟨b, o, rfl, _⟩ := h.at hl
 refine ⟨b, o, rfl, fun k hk => ?_⟩
 obtain ⟨b', o', e, hc⟩ := h.at hk
 cases e
 exact hc
theorem Pcs.neM {w : World} {pb po b : Nat} {l : List ByteArray} {s k : ByteArray} {n1 n2 n3 n4 : Int} (h : Pcs w pb po l) (hl : 3 < l.length) (hA : Box w b #[.string s, .int .i64 n1, .string k, .int .i64 n2, .int .i64 n3, .int .i64 n4]) : pb ≠ b := by
 rintro rfl
 have c0 := h 0 (by omega)
 have c1 := h 1 (by omega)
 rw [hA.2] at c0 c1
 match po, c0, c1 with
 | 0, _, c1 => cases c1
 | 1, c0, _ => cases c0
 | 2, _, c1 => cases c1
 | 3, c0, _ => cases c0
 | 4, c0, _ => cases c0
 | 5, c0, _ => cases c0
 | j + 6, c0, _ => simp at c0
/-- a new block of a type -/
def TPnewR (B : Nat) (A : Array Value) (t : TypeId) : TP := ⟨fun w v => ∃ g, v = .pointer (some ⟨g, 0, none⟩) ∧ B ≤ g ∧ RH w g A t, fun _ _ _ hb ⟨g, h1, h2, h3⟩ => ⟨g, h1, h2, h3.ext hb⟩⟩
/-- what reading a line gives -/
def RdM (l : List UInt8) (w : World) (e : Ending) (w' : World) : Prop := ∃ x b, e = .returned (.tuple #[.agg (metC x), .bool b]) ∧ x.ok ∧ ((readM l = some x ∧ b = true) ∨ (readM l = none ∧ b = false)) ∧ Below w.heap.size w w'
end Tx
end Go.Proofs.YteaaibpanocgaaaDoor
namespace Go.Proofs.YteaaibpanocgaaaDoor
open Go.RowKit
structure Ev where
  shard : ByteArray
  number : Int
  kind : Int
  time : Int
  key : ByteArray
  name : ByteArray
  arm : Int
  n : Int
def Ev.ok (e : Ev) : Prop := e.shard.size ≤ maxLen ∧ e.key.size ≤ maxLen ∧ e.name.size ≤ maxLen
end Go.Proofs.YteaaibpanocgaaaDoor
namespace Go.Proofs.YteaaibpanocgaaaDoor
namespace Tx
open _root_.Go.Proofs.YteaaibpanocgaaaDoor.Nm
def bs (l : List UInt8) : ByteArray := ⟨l.toArray⟩
end Tx
end Go.Proofs.YteaaibpanocgaaaDoor
namespace Go.Proofs.YteaaibpanocgaaaDoor
open Go.RowKit
namespace Tx
open _root_.Go.Proofs.YteaaibpanocgaaaDoor.Nm
open _root_.Go.Proofs.YteaaibpanocgaaaDoor.Nt (RH RH.cell RH.box RH.lt RH.new RH.ext RH.fre RH.set RH.other)
/-- strconv's two errors are errors -/
def Er (w : World) : Prop := (∃ tp p, w.cell? ⟨2, 0, none⟩ = some (.iface tp p)) ∧ ∃ tp p, w.cell? ⟨3, 0, none⟩ = some (.iface tp p)
theorem Er.ext {w w' : World} (h : Er w) (hb : Below w.heap.size w w') : Er w' := by
 obtain ⟨⟨t1, p1, h1⟩, ⟨t2, p2, h2⟩⟩ := h
 exact ⟨⟨t1, p1, (hb.cell (World.block_lt_of_cell? _ _ h1)).trans h1⟩, ⟨t2, p2, (hb.cell (World.block_lt_of_cell? _ _ h2)).trans h2⟩⟩
theorem itoaI_at (v : Int) (h1 : -9223372036854775808 ≤ v) (h2 : v ≤ 9223372036854775807) (w : World) (ht : Tb w) : Calls Tryd.prog 16 #[.int .i64 v] w fun e w' => e = .returned (.string (stB (itoaS v))) ∧ Below w.heap.size w w' := by
 refine (Tryd.strconv_Itoa v h1 h2 w ht).mono ?_
 rintro e w' ⟨rfl, k, os, rfl⟩
 exact ⟨by rw [itoa_is]; rfl, Lib.below_grow _ _ (Nat.le_refl _) _ _⟩
/-- Atoi at every text: a number and no error, or an error -/
def AtPost (l : List UInt8) (w : World) (e : Ending) (w' : World) : Prop := ((∃ v, Lib.atoiAll l = .ok v ∧ e = .returned (.tuple #[.int .i64 v, .nilIface])) ∨ ((∀ v, Lib.atoiAll l ≠ .ok v) ∧ ∃ n t N, e = .returned (.tuple #[.int .i64 n, .iface t (.pointer (some ⟨N, 0, none⟩))]))) ∧ Below w.heap.size w w'
theorem atoiAll_at (s : ByteArray) (hs : s.size ≤ 1048576) (w : World) (he : Er w) : Calls Tryd.prog 45 #[.string s] w (AtPost s.data.toList w) := by
 obtain ⟨⟨t1, p1, h1⟩, ⟨t2, p2, h2⟩⟩ := he
 cases h : Lib.atoiAll s.data.toList with
 | ok v =>
  refine (Tryd.strconv_Atoi_ok s (by omega) v h w).mono ?_
  rintro e w' ⟨rfl, hw⟩
  refine ⟨.inl ⟨v, h, rfl⟩, ?_⟩
  rcases hw with rfl | ⟨t, rfl⟩
  ·exact Below.refl _ _
  ·exact Lib.bytesWorld_below _ _ _
 | range =>
  refine (Tryd.strconv_Atoi_range s (by omega) h _ w h2 (.inr ⟨t2, p2, rfl⟩)).mono ?_
  rintro e w' ⟨N, rfl, -, -, hb⟩
  exact ⟨.inr ⟨fun v e => (by rw [h] at e; cases e), _, _, N, rfl⟩, hb⟩
 | _ =>
  refine (Tryd.strconv_Atoi_syntax s (by omega) h _ w h1 (.inr ⟨t1, p1, rfl⟩)).mono ?_
  rintro e w' ⟨N, rfl, -, -, hb⟩
  exact ⟨.inr ⟨fun v e => (by rw [h] at e; cases e), _, _, N, rfl⟩, hb⟩
end Tx
end Go.Proofs.YteaaibpanocgaaaDoor
namespace Go.Proofs.YteaaibpanocgaaaDoor
open Go.RowKit
namespace Tx
open _root_.Go.Proofs.YteaaibpanocgaaaDoor.Nm
theorem natO_bad {l : List UInt8} (h : ∀ v, Lib.atoiAll l ≠ .ok v) : natO 13 l = none := by
 cases hc : natO 13 l with
 | none => rfl
 | some v =>
  obtain ⟨n, rfl, rfl, h13⟩ := natO_iff.1 hc
  have h9 := atoiAll_itoa (v := (n : Int)) (by omega)
  rw [itoaS_nat] at h9
  exact absurd h9 (h _)
theorem natO_ok {l : List UInt8} {v : Int} (h : Lib.atoiAll l = .ok v) : natO 13 l = if l.length ≤ 13 ∧ 0 ≤ v ∧ itoaS v = l then some v else none := by
 by_cases hc : l.length ≤ 13 ∧ 0 ≤ v ∧ itoaS v = l
 ·rw [if_pos hc]
  obtain ⟨h1, h2, h3⟩ := hc
  obtain ⟨n, rfl⟩ : ∃ n : Nat, v = n := ⟨v.toNat, by omega⟩
  rw [itoaS_nat] at h3
  exact natO_iff.2 ⟨n, rfl, h3.symm, lt_of_decS (by rw [h3]; exact h1)⟩
 ·rw [if_neg hc]
  cases hd : natO 13 l with
  | none => rfl
  | some u =>
   obtain ⟨n, rfl, rfl, h13⟩ := natO_iff.1 hd
   have h9 := atoiAll_itoa (v := (n : Int)) (by omega)
   rw [itoaS_nat, h] at h9
   injection h9 with h9
   subst h9
   exact absurd ⟨decS_length h13 (by decide), by omega, itoaS_nat n⟩ hc
/-- a number that is read, and whether it is one -/
def NatPost (l : List UInt8) (w : World) (e : Ending) (w' : World) : Prop := ∃ n : Int, e = .returned (.tuple #[.int .i64 n, .bool (natO 13 l).isSome]) ∧ (∀ v, natO 13 l = some v → v = n) ∧ Below w.heap.size w w'
theorem mtNumber_at (s : ByteArray) (hs : s.size ≤ 1048576) (w : World) (he : Er w) (ht : Tb w) : Calls Tryd.prog 35 #[.string s] w (NatPost s.data.toList w) := by
 have HS := Lib.hid hs
 have HE := Lib.hid he
 have HT := Lib.hid ht
 have HL : Hid (s.data.toList.length = s.size) := Lib.hid Array.length_toList
 clear hs he ht
 go_enter Tryd.func35, Tryd.ntmps35
 go_wp2_with fail
 refine (atoiAll_at s HS.out w HE.out).mono ?_
 rintro e w1 ⟨hcase, hb1⟩
 have HB := Lib.hid hb1
 clear hb1
 rcases hcase with ⟨v, hv, rfl⟩ | ⟨hbad, n, t, N, rfl⟩
 ·have HN := Lib.hid (natO_ok hv)
  have hbd := Lib.atoiAll_bounds hv
  have HBD := Lib.hid hbd
  clear hv hbd
  by_cases h13 : s.size ≤ 13
  ·have h13' : (s.size : Int) ≤ 13 := by omega
   have H13 := Lib.hid h13
   clear h13
   by_cases h0 : 0 ≤ v
   ·have H0 := Lib.hid h0
    go_wp2_with fail
    refine (itoaI_at v HBD.out.1 HBD.out.2 w1 (HT.out.ext HB.out)).mono ?_
    rintro e w3 ⟨rfl, hb3⟩
    have HB3 := Lib.hid (ext_trans HB.out hb3)
    clear hb3
    by_cases hE : itoaS v = s.data.toList
    ·have HO : Hid (natO 13 s.data.toList = some v) := Lib.hid (HN.out.trans (if_pos ⟨by rw [HL.out]; exact H13.out, H0.out, hE⟩))
     rw [hE, stB_self]
     clear hE HN
     go_wp2
     exact bodyPost_ret (v := .tuple #[.int .i64 v, .bool true]) (by simp [results, Tryd.results35, go_sem]) rfl ⟨v, by rw [HO.out]; rfl, fun u hu => (by rw [HO.out] at hu; injection hu with hu; exact hu.symm), HB3.out⟩
    ·have HO : Hid (natO 13 s.data.toList = none) := Lib.hid (HN.out.trans (if_neg fun h => hE h.2.2))
     obtain ⟨iv, hiv⟩ : ∃ z, stB (itoaS v) = z := ⟨_, rfl⟩
     rw [hiv]
     have hne : ¬ (iv.toList = s.toList) := by
      rw [ByteArray.toList_eq, ByteArray.toList_eq, ← hiv]; exact hE
     have hne2 : (iv.toList == s.toList) = false := by simpa using hne
     have hne3 : ¬ (iv = s) := fun h => hne (by rw [h])
     clear hiv hE HN
     go_wp2
     exact bodyPost_ret (v := .tuple #[.int .i64 v, .bool false]) (by simp [results, Tryd.results35, go_sem]) rfl ⟨v, by rw [HO.out]; rfl, fun u hu => (by rw [HO.out] at hu; cases hu), HB3.out⟩
   ·have HO : Hid (natO 13 s.data.toList = none) := Lib.hid (HN.out.trans (if_neg fun h => h0 h.2.1))
    clear HN
    go_wp2
    exact bodyPost_ret (v := .tuple #[.int .i64 v, .bool false]) (by simp [results, Tryd.results35, go_sem]) rfl ⟨v, by rw [HO.out]; rfl, fun u hu => (by rw [HO.out] at hu; cases hu), HB.out⟩
  ·have h13' : decide ((s.size : Int) ≤ 13) = false := decide_eq_false (by omega)
   have HO : Hid (natO 13 s.data.toList = none) := Lib.hid (HN.out.trans (if_neg fun h => h13 (by rw [← HL.out]; exact h.1)))
   clear h13 HN
   go_wp2
   exact bodyPost_ret (v := .tuple #[.int .i64 v, .bool false]) (by simp [results, Tryd.results35, go_sem]) rfl ⟨v, by rw [HO.out]; rfl, fun u hu => (by rw [HO.out] at hu; cases hu), HB.out⟩
 ·have HO := Lib.hid (natO_bad hbad)
  clear hbad
  go_wp2
  exact bodyPost_ret (v := .tuple #[.int .i64 n, .bool false]) (by simp [results, Tryd.results35, go_sem]) rfl ⟨n, by rw [HO.out]; rfl, fun u hu => (by rw [HO.out] at hu; cases hu), HB.out⟩
end Tx
end Go.Proofs.YteaaibpanocgaaaDoor
namespace Go.Proofs.YteaaibpanocgaaaDoor
open Go.RowKit
set_option maxRecDepth 100000 in
set_option maxHeartbeats 8000000 in
theorem flag_XisRow (s : ByteArray) (hs : s.size ≤ maxLen) (w : World) : Calls Tryd.prog 34 #[.string s] w fun e w' => e = .returned (.bool (wordsB s.data.toList)) ∧ w = w' := by
 unfold maxLen at hs
 go_enter Tryd.func34, Tryd.ntmps34
 go_wp2
 go_loop [7] (fun i => ∃ k : Nat, k ≤ s.size ∧ i = .int .i64 k ∧ Hid ((s.data.toList.take k).all wordC = true)) (fun i => s.size - (intOf i).toNat)
 case atStart => exact ⟨0, by omega, rfl, rfl⟩
 case round =>
  obtain ⟨k, hk, rfl, HA⟩ := hrel
  by_cases hlt : k < s.size
  ·have hb0 : (0 : Int) ≤ (s[k].toNat : Int) := Int.natCast_nonneg _
   by_cases h1 : 97 ≤ (s[k].toNat : Int)
   ·by_cases h2 : (s[k].toNat : Int) ≤ 122
    ·have HW : Hid (wordC s[k] = true) := Lib.hid (decide_eq_true (by omega))
     go_wp2
     go_round
     case rel => exact ⟨k + 1, by omega, by go_num, all_snoc _ _ _ hlt HA.out HW.out⟩
     case measure => simp [intOf]; omega
    ·have HW : Hid (wordsB s.data.toList = false) := Lib.hid (by have h9 := all_not wordC s k hlt (decide_eq_false (by omega)); unfold wordsB; rw [h9]; rfl)
     have f1 : decide ((s[k].toNat : Int) ≤ 122) = false := decide_eq_false (by omega)
     have f2 : (48 : Int) ≤ (s[k].toNat : Int) := by omega
     have f3 : decide ((s[k].toNat : Int) ≤ 57) = false := decide_eq_false (by omega)
     have g45 : ((s[k].toNat : Int) == 45) = false := beq_eq_false_iff_ne.2 (by omega)
     have g95 : ((s[k].toNat : Int) == 95) = false := beq_eq_false_iff_ne.2 (by omega)
     clear h2
     clear hb0
     go_wp2
     go_ret
     exact ⟨ret_bool HW.out.symm, rfl⟩
   ·have f0 : decide (97 ≤ (s[k].toNat : Int)) = false := decide_eq_false (by omega)
    by_cases h3 : 48 ≤ (s[k].toNat : Int)
    ·by_cases h4 : (s[k].toNat : Int) ≤ 57
     ·have HW : Hid (wordC s[k] = true) := Lib.hid (decide_eq_true (by omega))
      clear h1
      go_wp2
      go_round
      case rel => exact ⟨k + 1, by omega, by go_num, all_snoc _ _ _ hlt HA.out HW.out⟩
      case measure => simp [intOf]; omega
     ·have f3 : decide ((s[k].toNat : Int) ≤ 57) = false := decide_eq_false (by omega)
      have g45 : ((s[k].toNat : Int) == 45) = false := beq_eq_false_iff_ne.2 (by omega)
      by_cases h5 : (s[k].toNat : Int) = 95
      ·have HW : Hid (wordC s[k] = true) := Lib.hid (decide_eq_true (by omega))
       have g95 : ((s[k].toNat : Int) == 95) = true := beq_iff_eq.2 h5
       clear h1 h4 h5
       go_wp2
       go_round
       case rel => exact ⟨k + 1, by omega, by go_num, all_snoc _ _ _ hlt HA.out HW.out⟩
       case measure => simp [intOf]; omega
      ·have HW : Hid (wordsB s.data.toList = false) := Lib.hid (by have h9 := all_not wordC s k hlt (decide_eq_false (by omega)); unfold wordsB; rw [h9]; rfl)
       have g95 : ((s[k].toNat : Int) == 95) = false := beq_eq_false_iff_ne.2 h5
       clear h1 h4 h5
       clear hb0
       go_wp2
       go_ret
       exact ⟨ret_bool HW.out.symm, rfl⟩
    ·have f4 : decide (48 ≤ (s[k].toNat : Int)) = false := decide_eq_false (by omega)
     by_cases h6 : (s[k].toNat : Int) = 45
     ·have HW : Hid (wordC s[k] = true) := Lib.hid (decide_eq_true (by omega))
      have g45 : ((s[k].toNat : Int) == 45) = true := beq_iff_eq.2 h6
      clear h1 h3 h6
      go_wp2
      go_round
      case rel => exact ⟨k + 1, by omega, by go_num, all_snoc _ _ _ hlt HA.out HW.out⟩
      case measure => simp [intOf]; omega
     ·have HW : Hid (wordsB s.data.toList = false) := Lib.hid (by have h9 := all_not wordC s k hlt (decide_eq_false (by omega)); unfold wordsB; rw [h9]; rfl)
      have g45 : ((s[k].toNat : Int) == 45) = false := beq_eq_false_iff_ne.2 h6
      have g95 : ((s[k].toNat : Int) == 95) = false := beq_eq_false_iff_ne.2 (by omega)
      clear h1 h3 h6
      clear hb0
      go_wp2
      go_ret
      exact ⟨ret_bool HW.out.symm, rfl⟩
  ·have HW := Lib.hid (all_end _ _ _ hlt HA.out)
   go_wp2
   go_ret
   exact ⟨ret_bool (by unfold wordsB; rw [HW.out, ByteArray.toList_eq]; simp), rfl⟩
end Go.Proofs.YteaaibpanocgaaaDoor
