/- Numbers in an event's text: number of package event; Number and amount of the reference. Printed by gen_evn.py. Rows of bytes: isBytes of package event, XisRow of package flag; IsRow, IsPlain of the reference. Printed by gen_evs.py. -/
import Derived.Test.YtbgbfjfboaajbaaGreatDoorEm05
import Derived.Test.YtbgbfjfboaajbaaGreatDoorEm02
import Derived.Test.YtbgbfjfboaajbaaGreatDoorEm12
import Derived.Test.YtbgbfjfboaajbaaGreatDoorEm01
namespace Go.Proofs.YtbgbfjfboaajbaaGreatDoor
open Go.RowKit
namespace Tx
open _root_.Go.Proofs.YtbgbfjfboaajbaaGreatDoor.Nm
open _root_.Go.Proofs.YtbgbfjfboaajbaaGreatDoor.Nt (RH RH.cell RH.box RH.lt RH.new RH.ext RH.fre RH.set RH.other)
/-- strconv's two errors are errors -/
def Er (w : World) : Prop := (∃ tp p, w.cell? ⟨2, 0, none⟩ = some (.iface tp p)) ∧ ∃ tp p, w.cell? ⟨3, 0, none⟩ = some (.iface tp p)
theorem Er.ext {w w' : World} (h : Er w) (hb : Below w.heap.size w w') : Er w' := by
 obtain ⟨⟨t1, p1, h1⟩, ⟨t2, p2, h2⟩⟩ := h
 exact ⟨⟨t1, p1, (hb.cell (World.block_lt_of_cell? _ _ h1)).trans h1⟩, ⟨t2, p2, (hb.cell (World.block_lt_of_cell? _ _ h2)).trans h2⟩⟩
theorem itoaI_at (v : Int) (h1 : -9223372036854775808 ≤ v) (h2 : v ≤ 9223372036854775807) (w : World) (ht : Tb w) : Calls Tryz.prog 28 #[.int .i64 v] w fun e w' => e = .returned (.string (stB (itoaS v))) ∧ Below w.heap.size w w' := by
 refine (Tryz.strconv_Itoa v h1 h2 w ht).mono ?_
 rintro e w' ⟨rfl, k, os, rfl⟩
 exact ⟨by rw [itoa_is]; rfl, Lib.below_grow _ _ (Nat.le_refl _) _ _⟩
/-- Atoi at every text: a number and no error, or an error -/
def AtPost (l : List UInt8) (w : World) (e : Ending) (w' : World) : Prop := ((∃ v, Lib.atoiAll l = .ok v ∧ e = .returned (.tuple #[.int .i64 v, .nilIface])) ∨ ((∀ v, Lib.atoiAll l ≠ .ok v) ∧ ∃ n t N, e = .returned (.tuple #[.int .i64 n, .iface t (.pointer (some ⟨N, 0, none⟩))]))) ∧ Below w.heap.size w w'
theorem atoiAll_at (s : ByteArray) (hs : s.size ≤ 4194304) (w : World) (he : Er w) : Calls Tryz.prog 60 #[.string s] w (AtPost s.data.toList w) := by
 obtain ⟨⟨t1, p1, h1⟩, ⟨t2, p2, h2⟩⟩ := he
 cases h : Lib.atoiAll s.data.toList with
 | ok v =>
  refine (Tryz.strconv_Atoi_ok s (by omega) v h w).mono ?_
  rintro e w' ⟨rfl, hw⟩
  refine ⟨.inl ⟨v, h, rfl⟩, ?_⟩
  rcases hw with rfl | ⟨t, rfl⟩
  ·exact Below.refl _ _
  ·exact Lib.bytesWorld_below _ _ _
 | range =>
  refine (Tryz.strconv_Atoi_range s (by omega) h _ w h2 (.inr ⟨t2, p2, rfl⟩)).mono ?_
  rintro e w' ⟨N, rfl, -, -, hb⟩
  exact ⟨.inr ⟨fun v e => (by rw [h] at e; cases e), _, _, N, rfl⟩, hb⟩
 | _ =>
  refine (Tryz.strconv_Atoi_syntax s (by omega) h _ w h1 (.inr ⟨t1, p1, rfl⟩)).mono ?_
  rintro e w' ⟨N, rfl, -, -, hb⟩
  exact ⟨.inr ⟨fun v e => (by rw [h] at e; cases e), _, _, N, rfl⟩, hb⟩
/-- a number that is read, and whether it is one -/
def NumPost (l : List UInt8) (w : World) (e : Ending) (w' : World) : Prop := ∃ n : Int, e = .returned (.tuple #[.int .i64 n, .bool (numO l).isSome]) ∧ (∀ v, numO l = some v → v = n) ∧ Below w.heap.size w w'
theorem numO_bad {l : List UInt8} (h : ∀ v, Lib.atoiAll l ≠ .ok v) : numO l = none := by
 unfold numO
 cases ha : Lib.atoiAll l with
 | ok v => exact absurd ha (h v)
 | range => rfl
 | _ => rfl
theorem numO_ok {l : List UInt8} {v : Int} (h : Lib.atoiAll l = .ok v) : numO l = if (trimM l).length ≤ 13 ∧ itoaS v = l then some v else none := by
 unfold numO; rw [h]
theorem trimPre_at (s : ByteArray) (_hs : s.size ≤ 4194304) (w : World) : Calls Tryz.prog 61 #[.string s, .string ⟨#[45]⟩] w fun e w' => e = .returned (.string (stB (trimM s.data.toList))) ∧ Below w.heap.size w w' := by
 refine (Tryz.strings_TrimPrefix s ⟨#[45]⟩ w).mono ?_
 rintro e w' ⟨rfl, rfl⟩
 exact ⟨rfl, Below.refl _ _⟩
theorem evNumber_at (s : ByteArray) (hs : s.size ≤ 4194304) (w : World) (he : Er w) (ht : Tb w) : Calls Tryz.prog 40 #[.string s] w (NumPost s.data.toList w) := by
 have HS := Lib.hid hs
 have HE := Lib.hid he
 have HT := Lib.hid ht
 clear hs he ht
 go_enter Tryz.func40, Tryz.ntmps40
 go_wp2_with fail
 refine (atoiAll_at s HS.out w HE.out).mono ?_
 rintro e w1 ⟨hcase, hb1⟩
 have HB := Lib.hid hb1
 clear hb1
 rcases hcase with ⟨v, hv, rfl⟩ | ⟨hbad, n, t, N, rfl⟩
 ·have HN := Lib.hid (numO_ok hv)
  have hbd := Lib.atoiAll_bounds hv
  have HBD := Lib.hid hbd
  clear hv hbd
  go_wp2_with fail
  refine (trimPre_at s HS.out w1).mono ?_
  rintro e w2 ⟨rfl, hb2⟩
  have HB2 := Lib.hid (ext_trans HB.out hb2)
  obtain ⟨tm, htm⟩ : ∃ z, stB (trimM s.data.toList) = z := ⟨_, rfl⟩
  have hts : tm.size = (trimM s.data.toList).length := by rw [← htm, stB_size]
  rw [htm]
  clear htm hb2
  by_cases h13 : (trimM s.data.toList).length ≤ 13
  ·have h13' : (tm.size : Int) ≤ 13 := by omega
   have H13 := Lib.hid h13
   clear hts h13
   go_wp2_with fail
   refine (itoaI_at v HBD.out.1 HBD.out.2 w2 (HT.out.ext HB2.out)).mono ?_
   rintro e w3 ⟨rfl, hb3⟩
   have HB3 := Lib.hid (ext_trans HB2.out hb3)
   clear hb3
   by_cases hE : itoaS v = s.data.toList
   ·have HO : Hid (numO s.data.toList = some v) := Lib.hid (HN.out.trans (if_pos ⟨H13.out, hE⟩))
    rw [hE, stB_self]
    clear hE HN
    go_wp2
    exact bodyPost_ret (v := .tuple #[.int .i64 v, .bool true]) (by simp [results, Tryz.results40, go_sem]) rfl ⟨v, by rw [HO.out]; rfl, fun u hu => (by rw [HO.out] at hu; injection hu with hu; exact hu.symm), HB3.out⟩
   ·have HO : Hid (numO s.data.toList = none) := Lib.hid (HN.out.trans (if_neg fun h => hE h.2))
    obtain ⟨iv, hiv⟩ : ∃ z, stB (itoaS v) = z := ⟨_, rfl⟩
    rw [hiv]
    have hne : ¬ (iv.toList = s.toList) := by
     rw [ByteArray.toList_eq, ByteArray.toList_eq, ← hiv]; exact hE
    have hne2 : (iv.toList == s.toList) = false := by simpa using hne
    have hne3 : ¬ (iv = s) := fun h => hne (by rw [h])
    clear hiv hE HN
    go_wp2
    exact bodyPost_ret (v := .tuple #[.int .i64 v, .bool false]) (by simp [results, Tryz.results40, go_sem]) rfl ⟨v, by rw [HO.out]; rfl, fun u hu => (by rw [HO.out] at hu; cases hu), HB3.out⟩
  ·have h13' : decide ((tm.size : Int) ≤ 13) = false := decide_eq_false (by omega)
   have HO : Hid (numO s.data.toList = none) := Lib.hid (HN.out.trans (if_neg fun h => h13 h.1))
   clear hts h13 HN
   go_wp2
   exact bodyPost_ret (v := .tuple #[.int .i64 v, .bool false]) (by simp [results, Tryz.results40, go_sem]) rfl ⟨v, by rw [HO.out]; rfl, fun u hu => (by rw [HO.out] at hu; cases hu), HB2.out⟩
 ·have HO := Lib.hid (numO_bad hbad)
  clear hbad
  go_wp2
  exact bodyPost_ret (v := .tuple #[.int .i64 n, .bool false]) (by simp [results, Tryz.results40, go_sem]) rfl ⟨n, by rw [HO.out]; rfl, fun u hu => (by rw [HO.out] at hu; cases hu), HB.out⟩
/-- Number of the reference -/
def N4Post (l : List UInt8) (w : World) (e : Ending) (w' : World) : Prop := e = .returned (.tuple #[.int .i64 ((natO 13 l).getD 0), .bool (natO 13 l).isSome]) ∧ Below w.heap.size w w'
theorem zeroF_of (s : ByteArray) (h : 0 < s.size) : zeroF s.data.toList = decide ((s[0].toNat : Int) = 48) := by
 have hl : s.data.toList.length = s.size := Array.length_toList
 cases hc : s.data.toList with
 | nil => rw [hc] at hl; simp at hl; omega
 | cons c r =>
  have e : s[0] = c := by
   have : s.data.toList[0]'(by omega) = c := by simp [hc]
   rw [← this]; rfl
  rw [e]; rfl
set_option maxRecDepth 100000 in
set_option maxHeartbeats 8000000 in
theorem number4_at (s : ByteArray) (hs : s.size ≤ 4194304) (w : World) : Calls Tryz.prog 64 #[.string s, .int .i64 13] w (N4Post s.data.toList w) := by
 have hl : s.data.toList.length = s.size := Array.length_toList
 by_cases h0 : 0 < s.size
 ·have hem : s.toList.isEmpty = false := by
   rw [ByteArray.toList_eq]
   cases hq : s.data.toList with
   | nil => rw [hq] at hl; simp at hl; omega
   | cons _ _ => rfl
  have hem2 : (s.toList == []) = false := by
   rw [beq_eq_false_iff_ne]; intro h; rw [h] at hem; cases hem
  have hem3 : ¬ (s.toList = []) := fun h => by rw [h] at hem; cases hem
  have HG : Hid (digO 13 s.data.toList = (decide (s.size ≤ 13) && !(decide (1 < s.size) && decide ((s[0].toNat : Int) = 48)) && s.data.toList.all digF)) := Lib.hid (by
   unfold digO; rw [zeroF_of s h0, hl, ← ByteArray.toList_eq, hem]; simp)
  have HNO : Hid (natO 13 s.data.toList = if digO 13 s.data.toList = true then some ((decv s.data.toList : Nat) : Int) else none) := Lib.hid rfl
  clear hl
  by_cases h13 : s.size ≤ 13
  ·have h13' : ¬ (13 : Int) < (s.size : Int) := by omega
   by_cases hz : 1 < s.size ∧ (s[0].toNat : Int) = 48
   ·obtain ⟨hz1, hz2⟩ := hz
    have HO : Hid (natO 13 s.data.toList = none) := Lib.hid (by rw [HNO.out, HG.out, decide_eq_true hz1, decide_eq_true hz2]; simp)
    have hz1' : (1 : Int) < (s.size : Int) := by omega
    clear HG HNO
    go_enter Tryz.func64, Tryz.ntmps64
    go_wp2
    exact bodyPost_ret (v := .tuple #[.int .i64 0, .bool false]) (by simp [results, Tryz.results64, go_sem]) rfl ⟨by rw [HO.out]; rfl, Below.refl _ _⟩
   ·have HG2 : Hid (digO 13 s.data.toList = s.data.toList.all digF) := Lib.hid (by
     rw [HG.out, decide_eq_true h13]
     have : (decide (1 < s.size) && decide ((s[0].toNat : Int) = 48)) = false := by
      rw [Bool.and_eq_false_iff]
      by_cases h1 : 1 < s.size
      ·right; exact decide_eq_false (fun h => hz ⟨h1, h⟩)
      ·left; exact decide_eq_false h1
     rw [this]; rfl)
    have HZ := Lib.hid hz
    have HS := Lib.hid hs
    clear HG hz hs
    have body : ∀ (g : (s.size = 1) ∨ (1 < s.size ∧ ¬ (s[0].toNat : Int) = 48)), Calls Tryz.prog 64 #[.string s, .int .i64 13] w (N4Post s.data.toList w) := by
     intro g
     rcases g with g | ⟨g1, g2⟩
     ·have g' : ¬ (1 : Int) < (s.size : Int) := by omega
      go_enter Tryz.func64, Tryz.ntmps64
      go_wp2
      go_loop [29] (fun i => ∃ k : Nat, k ≤ s.size ∧ i = .int .i64 k ∧ Hid ((s.data.toList.take k).all digF = true)) (fun i => s.size - (intOf i).toNat)
      case atStart => exact ⟨0, by omega, rfl, rfl⟩
      case round =>
       obtain ⟨k, hk, rfl, HA⟩ := hrel
       by_cases hlt : k < s.size
       ·by_cases hw : 48 ≤ (s[k].toNat : Int)
        ·by_cases hw2 : (s[k].toNat : Int) ≤ 57
         ·have HW : Hid (digF s[k] = true) := Lib.hid (decide_eq_true ⟨hw, hw2⟩)
          go_wp2
          all_goals go_round
          case rel => exact ⟨k + 1, by omega, by go_num, Dg.all_snoc _ _ _ hlt HA.out HW.out⟩
          case measure => simp [intOf] <;> omega
         ·have HO : Hid (natO 13 s.data.toList = none) := Lib.hid (by rw [HNO.out, HG2.out, Dg.all_not digF s k hlt (decide_eq_false (fun h => hw2 h.2))]; rfl)
          have hw2' : (57 : Int) < (s[k].toNat : Int) := by omega
          clear hw2
          go_wp2
          exact bodyPost_ret (v := .tuple #[.int .i64 0, .bool false]) (by simp [results, Tryz.results64, go_sem]) rfl ⟨by rw [HO.out]; rfl, Below.refl _ _⟩
        ·have HO : Hid (natO 13 s.data.toList = none) := Lib.hid (by rw [HNO.out, HG2.out, Dg.all_not digF s k hlt (decide_eq_false (fun h => hw h.1))]; rfl)
         have hw' : (s[k].toNat : Int) < 48 := by omega
         clear hw
         go_wp2
         exact bodyPost_ret (v := .tuple #[.int .i64 0, .bool false]) (by simp [results, Tryz.results64, go_sem]) rfl ⟨by rw [HO.out]; rfl, Below.refl _ _⟩
       ·have HD := Lib.hid (Dg.all_end _ _ _ hlt HA.out)
        have HO : Hid (natO 13 s.data.toList = some ((decv s.data.toList : Nat) : Int)) := Lib.hid (by rw [HNO.out, HG2.out, if_pos HD.out])
        have HAT := Lib.hid (fun W9 => atoi_at s (digF_iff.1 HD.out) h0 (by omega) W9)
        generalize decv s.data.toList = n at *
        clear HNO
        go_wp2_with fail
        refine (HAT.out _).mono ?_
        rintro e w2 ⟨rfl, hb2⟩
        have HB := Lib.hid hb2
        clear hb2 HAT
        go_wp2
        exact bodyPost_ret (v := .tuple #[.int .i64 (n : Int), .bool true]) (by simp [results, Tryz.results64, go_sem]) rfl ⟨by rw [HO.out]; rfl, HB.out⟩
     ·have g1' : (1 : Int) < (s.size : Int) := by omega
      go_enter Tryz.func64, Tryz.ntmps64
      go_wp2
      go_loop [29] (fun i => ∃ k : Nat, k ≤ s.size ∧ i = .int .i64 k ∧ Hid ((s.data.toList.take k).all digF = true)) (fun i => s.size - (intOf i).toNat)
      case atStart => exact ⟨0, by omega, rfl, rfl⟩
      case round =>
       obtain ⟨k, hk, rfl, HA⟩ := hrel
       by_cases hlt : k < s.size
       ·by_cases hw : 48 ≤ (s[k].toNat : Int)
        ·by_cases hw2 : (s[k].toNat : Int) ≤ 57
         ·have HW : Hid (digF s[k] = true) := Lib.hid (decide_eq_true ⟨hw, hw2⟩)
          go_wp2
          all_goals go_round
          case rel => exact ⟨k + 1, by omega, by go_num, Dg.all_snoc _ _ _ hlt HA.out HW.out⟩
          case measure => simp [intOf] <;> omega
         ·have HO : Hid (natO 13 s.data.toList = none) := Lib.hid (by rw [HNO.out, HG2.out, Dg.all_not digF s k hlt (decide_eq_false (fun h => hw2 h.2))]; rfl)
          have hw2' : (57 : Int) < (s[k].toNat : Int) := by omega
          clear hw2
          go_wp2
          exact bodyPost_ret (v := .tuple #[.int .i64 0, .bool false]) (by simp [results, Tryz.results64, go_sem]) rfl ⟨by rw [HO.out]; rfl, Below.refl _ _⟩
        ·have HO : Hid (natO 13 s.data.toList = none) := Lib.hid (by rw [HNO.out, HG2.out, Dg.all_not digF s k hlt (decide_eq_false (fun h => hw h.1))]; rfl)
         have hw' : (s[k].toNat : Int) < 48 := by omega
         clear hw
         go_wp2
         exact bodyPost_ret (v := .tuple #[.int .i64 0, .bool false]) (by simp [results, Tryz.results64, go_sem]) rfl ⟨by rw [HO.out]; rfl, Below.refl _ _⟩
       ·have HD := Lib.hid (Dg.all_end _ _ _ hlt HA.out)
        have HO : Hid (natO 13 s.data.toList = some ((decv s.data.toList : Nat) : Int)) := Lib.hid (by rw [HNO.out, HG2.out, if_pos HD.out])
        have HAT := Lib.hid (fun W9 => atoi_at s (digF_iff.1 HD.out) h0 (by omega) W9)
        generalize decv s.data.toList = n at *
        clear HNO
        go_wp2_with fail
        refine (HAT.out _).mono ?_
        rintro e w2 ⟨rfl, hb2⟩
        have HB := Lib.hid hb2
        clear hb2 HAT
        go_wp2
        exact bodyPost_ret (v := .tuple #[.int .i64 (n : Int), .bool true]) (by simp [results, Tryz.results64, go_sem]) rfl ⟨by rw [HO.out]; rfl, HB.out⟩
    exact body (by
     by_cases h1 : s.size = 1
     ·exact .inl h1
     ·exact .inr ⟨by omega, fun h => HZ.out ⟨by omega, h⟩⟩)
  ·have h13' : (13 : Int) < (s.size : Int) := by omega
   have HO : Hid (natO 13 s.data.toList = none) := Lib.hid (by rw [HNO.out, HG.out, decide_eq_false h13]; simp)
   clear HG HNO
   go_enter Tryz.func64, Tryz.ntmps64
   go_wp2
   exact bodyPost_ret (v := .tuple #[.int .i64 0, .bool false]) (by simp [results, Tryz.results64, go_sem]) rfl ⟨by rw [HO.out]; rfl, Below.refl _ _⟩
 ·have hnil : s.data.toList = [] := List.eq_nil_of_length_eq_zero (by omega)
  have hem : s.toList.isEmpty = true := by rw [ByteArray.toList_eq, hnil]; rfl
  have hem2 : (s.toList == []) = true := by rw [ByteArray.toList_eq, hnil]; rfl
  have hem3 : s.toList = [] := by rw [ByteArray.toList_eq, hnil]
  have HO : Hid (natO 13 s.data.toList = none) := Lib.hid (by rw [hnil]; rfl)
  clear hnil hl
  go_enter Tryz.func64, Tryz.ntmps64
  go_wp2
  exact bodyPost_ret (v := .tuple #[.int .i64 0, .bool false]) (by simp [results, Tryz.results64, go_sem]) rfl ⟨by rw [HO.out]; rfl, Below.refl _ _⟩
theorem cutPre_at (s : ByteArray) (_hs : s.size ≤ 4194304) (w : World) : Calls Tryz.prog 63 #[.string s, .string ⟨#[45]⟩] w fun e w' => e = .returned (.tuple #[.string (stB (trimM s.data.toList)), .bool (Lib.hasPrefix s.data.toList [45])]) ∧ Below w.heap.size w w' := by
 refine (Tryz.strings_CutPrefix s ⟨#[45]⟩ w).mono ?_
 rintro e w' ⟨rfl, rfl⟩
 exact ⟨rfl, Below.refl _ _⟩
theorem trimM_len (l : List UInt8) : (trimM l).length ≤ l.length := Lib.trimPrefix_le _ _
theorem trimM_none {l : List UInt8} (h : Lib.hasPrefix l [45] = false) : trimM l = l := by unfold trimM Lib.trimPrefix; rw [h]; rfl
theorem amount_at (s : ByteArray) (hs : s.size ≤ 4194304) (w : World) : Calls Tryz.prog 46 #[.string s] w (NumPost s.data.toList w) := by
 have HS := Lib.hid hs
 have hz := trimM_len s.data.toList
 rw [show s.data.toList.length = s.size from Array.length_toList] at hz
 have HZ : Hid ((stB (trimM s.data.toList)).size ≤ 4194304) := Lib.hid (by rw [stB_size]; omega)
 have HAM : Hid (numO s.data.toList = if Lib.hasPrefix s.data.toList [45] = true then (match natO 13 (trimM s.data.toList) with | some n => if 0 < n then some (-n) else none | none => none) else natO 13 s.data.toList) := Lib.hid (by rw [← amt_num]; rfl)
 have HNP : Hid (Lib.hasPrefix s.data.toList [45] = false → trimM s.data.toList = s.data.toList) := Lib.hid trimM_none
 clear hs hz
 go_enter Tryz.func46, Tryz.ntmps46
 go_wp2_with fail
 refine (cutPre_at s HS.out w).mono ?_
 rintro e w1 ⟨rfl, hb1⟩
 have HB := Lib.hid hb1
 obtain ⟨p, hp⟩ : ∃ z, Lib.hasPrefix s.data.toList [45] = z := ⟨_, rfl⟩
 rw [hp] at HAM HNP ⊢
 obtain ⟨tm, htm⟩ : ∃ z, stB (trimM s.data.toList) = z := ⟨_, rfl⟩
 rw [htm] at HZ ⊢
 have HTM : Hid (trimM s.data.toList = tm.data.toList) := Lib.hid (by rw [← htm]; rfl)
 clear hb1 hp htm
 go_wp2_with fail
 refine (number4_at tm HZ.out w1).mono ?_
 rintro e w2 ⟨rfl, hb2⟩
 have HB2 := Lib.hid (ext_trans HB.out hb2)
 rw [HTM.out] at HAM HNP
 obtain ⟨o, ho⟩ : ∃ z, natO 13 tm.data.toList = z := ⟨_, rfl⟩
 rw [ho] at HAM ⊢
 have HO := Lib.hid ho
 clear hb2 ho HB
 cases p
 ·have HN : Hid (numO s.data.toList = o) := Lib.hid (by rw [HAM.out, if_neg (by decide), ← HNP.out rfl, HO.out])
  clear HAM HNP
  cases o with
  | none =>
   simp only [Option.getD_none, Option.isSome_none]
   go_wp2
   exact bodyPost_ret (v := .tuple #[.int .i64 0, .bool false]) (by simp [results, Tryz.results46, go_sem]) rfl ⟨0, by rw [HN.out]; rfl, fun u hu => (by rw [HN.out] at hu; cases hu), HB2.out⟩
  | some v =>
   simp only [Option.getD_some, Option.isSome_some]
   go_wp2
   exact bodyPost_ret (v := .tuple #[.int .i64 v, .bool true]) (by simp [results, Tryz.results46, go_sem]) rfl ⟨v, by rw [HN.out]; rfl, fun u hu => (by rw [HN.out] at hu; injection hu with hu; exact hu.symm), HB2.out⟩
 ·cases o with
  | none =>
   have HN : Hid (numO s.data.toList = none) := Lib.hid (by rw [HAM.out, if_pos rfl])
   clear HAM HNP
   simp only [Option.getD_none, Option.isSome_none]
   go_wp2
   exact bodyPost_ret (v := .tuple #[.int .i64 0, .bool false]) (by simp [results, Tryz.results46, go_sem]) rfl ⟨0, by rw [HN.out]; rfl, fun u hu => (by rw [HN.out] at hu; cases hu), HB2.out⟩
  | some v =>
   obtain ⟨k, hk, -, hk2⟩ := natO_iff.1 HO.out
   have hv0 : 0 ≤ v := by omega
   have hv1 : v ≤ 10000000000000 := by omega
   have HN : Hid (numO s.data.toList = if 0 < v then some (-v) else none) := Lib.hid (by rw [HAM.out, if_pos rfl])
   clear HAM HNP hk hk2
   simp only [Option.getD_some, Option.isSome_some]
   by_cases hv : 0 < v
   ·have HN2 := Lib.hid (HN.out.trans (if_pos hv))
    clear HN
    go_wp2
    exact bodyPost_ret (v := .tuple #[.int .i64 (-v), .bool true]) (by simp [results, Tryz.results46, go_sem]) rfl ⟨-v, by rw [HN2.out]; rfl, fun u hu => (by rw [HN2.out] at hu; injection hu with hu; exact hu.symm), HB2.out⟩
   ·obtain rfl : v = 0 := by omega
    have HN2 := Lib.hid (HN.out.trans (if_neg hv))
    clear HN hv
    go_wp2
    exact bodyPost_ret (v := .tuple #[.int .i64 0, .bool false]) (by simp [results, Tryz.results46, go_sem]) rfl ⟨0, by rw [HN2.out]; rfl, fun u hu => (by rw [HN2.out] at hu; cases hu), HB2.out⟩
end Tx
end Go.Proofs.YtbgbfjfboaajbaaGreatDoor
namespace Go.Proofs.YtbgbfjfboaajbaaGreatDoor
open Go.RowKit
set_option maxHeartbeats 2000000 in
theorem event_isBytes (s : ByteArray) (hs : s.size ≤ maxLen) (w : World) : Calls Tryz.prog 42 #[.string s] w fun e w' => e = .returned (.bool (seenB s.data.toList)) ∧ w = w' := by
 unfold maxLen at hs
 go_enter Tryz.func42, Tryz.ntmps42
 go_wp2
 go_loop [6] (fun i => ∃ k : Nat, k ≤ s.size ∧ i = .int .i64 k ∧ Hid ((s.data.toList.take k).all seenC = true)) (fun i => s.size - (intOf i).toNat)
 case atStart => exact ⟨0, by omega, rfl, rfl⟩
 case round =>
  obtain ⟨k, hk, rfl, HA⟩ := hrel
  by_cases hlt : k < s.size
  ·by_cases h1 : 33 ≤ (s[k].toNat : Int)
   ·by_cases h2 : (s[k].toNat : Int) ≤ 126
    ·have HW : Hid (seenC s[k] = true) := by exact (by unfold seenC; simp; omega : seenC s[k] = true)
     go_wp2
     go_round
     case rel => exact ⟨k + 1, by omega, by go_num, all_snoc _ _ _ hlt HA.out HW.out⟩
     case measure => simp [intOf]; omega
    ·have HW : Hid (seenB s.data.toList = false) := seenB_false (all_not _ _ _ hlt (by unfold seenC; simp; omega))
     go_wp2
     go_ret
     exact ⟨ret_bool HW.out.symm, rfl⟩
   ·have HW : Hid (seenB s.data.toList = false) := seenB_false (all_not _ _ _ hlt (by unfold seenC; simp; omega))
    go_wp2
    go_ret
    exact ⟨ret_bool HW.out.symm, rfl⟩
  ·have HW := Lib.hid (all_end _ _ _ hlt HA.out)
   go_wp2
   go_ret
   exact ⟨ret_bool (by unfold seenB; rw [HW.out, ByteArray.toList_eq]; simp), rfl⟩

set_option maxRecDepth 100000 in
set_option maxHeartbeats 8000000 in
theorem flag_XisRow (s : ByteArray) (hs : s.size ≤ maxLen) (w : World) : Calls Tryz.prog 41 #[.string s] w fun e w' => e = .returned (.bool (wordsB s.data.toList)) ∧ w = w' := by
 unfold maxLen at hs
 go_enter Tryz.func41, Tryz.ntmps41
 go_wp2
 go_loop [7] (fun i => ∃ k : Nat, k ≤ s.size ∧ i = .int .i64 k ∧ Hid ((s.data.toList.take k).all wordC = true)) (fun i => s.size - (intOf i).toNat)
 case atStart => exact ⟨0, by omega, rfl, rfl⟩
 case round =>
  obtain ⟨k, hk, rfl, HA⟩ := hrel
  by_cases hlt : k < s.size
  ·have hb0 : (0 : Int) ≤ (s[k].toNat : Int) := Int.natCast_nonneg _
   by_cases h1 : 97 ≤ (s[k].toNat : Int)
   ·by_cases h2 : (s[k].toNat : Int) ≤ 122
    ·have HW : Hid (wordC s[k] = true) := Lib.hid (decide_eq_true (by omega))
     go_wp2
     go_round
     case rel => exact ⟨k + 1, by omega, by go_num, all_snoc _ _ _ hlt HA.out HW.out⟩
     case measure => simp [intOf]; omega
    ·have HW : Hid (wordsB s.data.toList = false) := Lib.hid (by have h9 := all_not wordC s k hlt (decide_eq_false (by omega)); unfold wordsB; rw [h9]; rfl)
     have f1 : decide ((s[k].toNat : Int) ≤ 122) = false := decide_eq_false (by omega)
     have f2 : (48 : Int) ≤ (s[k].toNat : Int) := by omega
     have f3 : decide ((s[k].toNat : Int) ≤ 57) = false := decide_eq_false (by omega)
     have g45 : ((s[k].toNat : Int) == 45) = false := beq_eq_false_iff_ne.2 (by omega)
     have g95 : ((s[k].toNat : Int) == 95) = false := beq_eq_false_iff_ne.2 (by omega)
     clear h2
     clear hb0
     go_wp2
     go_ret
     exact ⟨ret_bool HW.out.symm, rfl⟩
   ·have f0 : decide (97 ≤ (s[k].toNat : Int)) = false := decide_eq_false (by omega)
    by_cases h3 : 48 ≤ (s[k].toNat : Int)
    ·by_cases h4 : (s[k].toNat : Int) ≤ 57
     ·have HW : Hid (wordC s[k] = true) := Lib.hid (decide_eq_true (by omega))
      clear h1
      go_wp2
      go_round
      case rel => exact ⟨k + 1, by omega, by go_num, all_snoc _ _ _ hlt HA.out HW.out⟩
      case measure => simp [intOf]; omega
     ·have f3 : decide ((s[k].toNat : Int) ≤ 57) = false := decide_eq_false (by omega)
      have g45 : ((s[k].toNat : Int) == 45) = false := beq_eq_false_iff_ne.2 (by omega)
      by_cases h5 : (s[k].toNat : Int) = 95
      ·have HW : Hid (wordC s[k] = true) := Lib.hid (decide_eq_true (by omega))
       have g95 : ((s[k].toNat : Int) == 95) = true := beq_iff_eq.2 h5
       clear h1 h4 h5
       go_wp2
       go_round
       case rel => exact ⟨k + 1, by omega, by go_num, all_snoc _ _ _ hlt HA.out HW.out⟩
       case measure => simp [intOf]; omega
      ·have HW : Hid (wordsB s.data.toList = false) := Lib.hid (by have h9 := all_not wordC s k hlt (decide_eq_false (by omega)); unfold wordsB; rw [h9]; rfl)
       have g95 : ((s[k].toNat : Int) == 95) = false := beq_eq_false_iff_ne.2 h5
       clear h1 h4 h5
       clear hb0
       go_wp2
       go_ret
       exact ⟨ret_bool HW.out.symm, rfl⟩
    ·have f4 : decide (48 ≤ (s[k].toNat : Int)) = false := decide_eq_false (by omega)
     by_cases h6 : (s[k].toNat : Int) = 45
     ·have HW : Hid (wordC s[k] = true) := Lib.hid (decide_eq_true (by omega))
      have g45 : ((s[k].toNat : Int) == 45) = true := beq_iff_eq.2 h6
      clear h1 h3 h6
      go_wp2
      go_round
      case rel => exact ⟨k + 1, by omega, by go_num, all_snoc _ _ _ hlt HA.out HW.out⟩
      case measure => simp [intOf]; omega
     ·have HW : Hid (wordsB s.data.toList = false) := Lib.hid (by have h9 := all_not wordC s k hlt (decide_eq_false (by omega)); unfold wordsB; rw [h9]; rfl)
      have g45 : ((s[k].toNat : Int) == 45) = false := beq_eq_false_iff_ne.2 h6
      have g95 : ((s[k].toNat : Int) == 95) = false := beq_eq_false_iff_ne.2 (by omega)
      clear h1 h3 h6
      clear hb0
      go_wp2
      go_ret
      exact ⟨ret_bool HW.out.symm, rfl⟩
  ·have HW := Lib.hid (all_end _ _ _ hlt HA.out)
   go_wp2
   go_ret
   exact ⟨ret_bool (by unfold wordsB; rw [HW.out, ByteArray.toList_eq]; simp), rfl⟩
set_option maxRecDepth 100000 in
set_option maxHeartbeats 8000000 in
theorem ref4_IsRow (s : ByteArray) (hs : s.size ≤ maxLen) (w : World) : Calls Tryz.prog 45 #[.string s] w fun e w' => e = .returned (.bool (wordsB s.data.toList)) ∧ w = w' := by
 unfold maxLen at hs
 go_enter Tryz.func45, Tryz.ntmps45
 go_wp2
 go_loop [7] (fun i => ∃ k : Nat, k ≤ s.size ∧ i = .int .i64 k ∧ Hid ((s.data.toList.take k).all wordC = true)) (fun i => s.size - (intOf i).toNat)
 case atStart => exact ⟨0, by omega, rfl, rfl⟩
 case round =>
  obtain ⟨k, hk, rfl, HA⟩ := hrel
  by_cases hlt : k < s.size
  ·have hb0 : (0 : Int) ≤ (s[k].toNat : Int) := Int.natCast_nonneg _
   by_cases h1 : 97 ≤ (s[k].toNat : Int)
   ·by_cases h2 : (s[k].toNat : Int) ≤ 122
    ·have HW : Hid (wordC s[k] = true) := Lib.hid (decide_eq_true (by omega))
     go_wp2
     go_round
     case rel => exact ⟨k + 1, by omega, by go_num, all_snoc _ _ _ hlt HA.out HW.out⟩
     case measure => simp [intOf]; omega
    ·have HW : Hid (wordsB s.data.toList = false) := Lib.hid (by have h9 := all_not wordC s k hlt (decide_eq_false (by omega)); unfold wordsB; rw [h9]; rfl)
     have f1 : decide ((s[k].toNat : Int) ≤ 122) = false := decide_eq_false (by omega)
     have f2 : (48 : Int) ≤ (s[k].toNat : Int) := by omega
     have f3 : decide ((s[k].toNat : Int) ≤ 57) = false := decide_eq_false (by omega)
     have g45 : ((s[k].toNat : Int) == 45) = false := beq_eq_false_iff_ne.2 (by omega)
     have g95 : ((s[k].toNat : Int) == 95) = false := beq_eq_false_iff_ne.2 (by omega)
     clear h2
     clear hb0
     go_wp2
     go_ret
     exact ⟨ret_bool HW.out.symm, rfl⟩
   ·have f0 : decide (97 ≤ (s[k].toNat : Int)) = false := decide_eq_false (by omega)
    by_cases h3 : 48 ≤ (s[k].toNat : Int)
    ·by_cases h4 : (s[k].toNat : Int) ≤ 57
     ·have HW : Hid (wordC s[k] = true) := Lib.hid (decide_eq_true (by omega))
      clear h1
      go_wp2
      go_round
      case rel => exact ⟨k + 1, by omega, by go_num, all_snoc _ _ _ hlt HA.out HW.out⟩
      case measure => simp [intOf]; omega
     ·have f3 : decide ((s[k].toNat : Int) ≤ 57) = false := decide_eq_false (by omega)
      have g45 : ((s[k].toNat : Int) == 45) = false := beq_eq_false_iff_ne.2 (by omega)
      by_cases h5 : (s[k].toNat : Int) = 95
      ·have HW : Hid (wordC s[k] = true) := Lib.hid (decide_eq_true (by omega))
       have g95 : ((s[k].toNat : Int) == 95) = true := beq_iff_eq.2 h5
       clear h1 h4 h5
       go_wp2
       go_round
       case rel => exact ⟨k + 1, by omega, by go_num, all_snoc _ _ _ hlt HA.out HW.out⟩
       case measure => simp [intOf]; omega
      ·have HW : Hid (wordsB s.data.toList = false) := Lib.hid (by have h9 := all_not wordC s k hlt (decide_eq_false (by omega)); unfold wordsB; rw [h9]; rfl)
       have g95 : ((s[k].toNat : Int) == 95) = false := beq_eq_false_iff_ne.2 h5
       clear h1 h4 h5
       clear hb0
       go_wp2
       go_ret
       exact ⟨ret_bool HW.out.symm, rfl⟩
    ·have f4 : decide (48 ≤ (s[k].toNat : Int)) = false := decide_eq_false (by omega)
     by_cases h6 : (s[k].toNat : Int) = 45
     ·have HW : Hid (wordC s[k] = true) := Lib.hid (decide_eq_true (by omega))
      have g45 : ((s[k].toNat : Int) == 45) = true := beq_iff_eq.2 h6
      clear h1 h3 h6
      go_wp2
      go_round
      case rel => exact ⟨k + 1, by omega, by go_num, all_snoc _ _ _ hlt HA.out HW.out⟩
      case measure => simp [intOf]; omega
     ·have HW : Hid (wordsB s.data.toList = false) := Lib.hid (by have h9 := all_not wordC s k hlt (decide_eq_false (by omega)); unfold wordsB; rw [h9]; rfl)
      have g45 : ((s[k].toNat : Int) == 45) = false := beq_eq_false_iff_ne.2 h6
      have g95 : ((s[k].toNat : Int) == 95) = false := beq_eq_false_iff_ne.2 (by omega)
      clear h1 h3 h6
      clear hb0
      go_wp2
      go_ret
      exact ⟨ret_bool HW.out.symm, rfl⟩
  ·have HW := Lib.hid (all_end _ _ _ hlt HA.out)
   go_wp2
   go_ret
   exact ⟨ret_bool (by unfold wordsB; rw [HW.out, ByteArray.toList_eq]; simp), rfl⟩
set_option maxHeartbeats 2000000 in
theorem ref4_IsPlain (s : ByteArray) (hs : s.size ≤ maxLen) (w : World) : Calls Tryz.prog 47 #[.string s] w fun e w' => e = .returned (.bool (seenB s.data.toList)) ∧ w = w' := by
 unfold maxLen at hs
 go_enter Tryz.func47, Tryz.ntmps47
 go_wp2
 go_loop [6] (fun i => ∃ k : Nat, k ≤ s.size ∧ i = .int .i64 k ∧ Hid ((s.data.toList.take k).all seenC = true)) (fun i => s.size - (intOf i).toNat)
 case atStart => exact ⟨0, by omega, rfl, rfl⟩
 case round =>
  obtain ⟨k, hk, rfl, HA⟩ := hrel
  by_cases hlt : k < s.size
  ·by_cases h1 : 33 ≤ (s[k].toNat : Int)
   ·by_cases h2 : (s[k].toNat : Int) ≤ 126
    ·have HW : Hid (seenC s[k] = true) := by exact (by unfold seenC; simp; omega : seenC s[k] = true)
     go_wp2
     go_round
     case rel => exact ⟨k + 1, by omega, by go_num, all_snoc _ _ _ hlt HA.out HW.out⟩
     case measure => simp [intOf]; omega
    ·have HW : Hid (seenB s.data.toList = false) := seenB_false (all_not _ _ _ hlt (by unfold seenC; simp; omega))
     go_wp2
     go_ret
     exact ⟨ret_bool HW.out.symm, rfl⟩
   ·have HW : Hid (seenB s.data.toList = false) := seenB_false (all_not _ _ _ hlt (by unfold seenC; simp; omega))
    go_wp2
    go_ret
    exact ⟨ret_bool HW.out.symm, rfl⟩
  ·have HW := Lib.hid (all_end _ _ _ hlt HA.out)
   go_wp2
   go_ret
   exact ⟨ret_bool (by unfold seenB; rw [HW.out, ByteArray.toList_eq]; simp), rfl⟩

end Go.Proofs.YtbgbfjfboaajbaaGreatDoor
