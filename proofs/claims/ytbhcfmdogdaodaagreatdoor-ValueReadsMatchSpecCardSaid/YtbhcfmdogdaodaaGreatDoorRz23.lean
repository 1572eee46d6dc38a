/- word and more of the reference's reader. Printed by gen_rjd.py. digits of the reference's reader. Printed by gen_rjd.py. sixteen of the reference: a digit to the base 16. Printed by gen_rjg.py. -/
import Derived.Test.YtbhcfmdogdaodaaGreatDoorRz22
import Derived.Test.YtbhcfmdogdaodaaGreatDoorRz15
import Derived.Test.YtbhcfmdogdaodaaGreatDoorRz10
namespace Go.Proofs.YtbhcfmdogdaodaaGreatDoor
open Go.RowKit
namespace Fd
open _root_.Go.Proofs.YtbhcfmdogdaodaaGreatDoor.Nm
open _root_.Go.Proofs.YtbhcfmdogdaodaaGreatDoor.Nt (RH RH.cell RH.box RH.lt RH.new RH.ext RH.fre RH.set RH.other)
theorem pk_is {s : ByteArray} {a : Nat} {c : UInt8} (h0 : c ≠ 0) : pk s a = (c.toNat : Int) ↔ ∃ h : a < s.size, s[a] = c := by
  constructor
  · intro h
    by_cases hlt : a < s.size
    · rw [pk_lt hlt] at h
      exact ⟨hlt, UInt8.toNat_inj.1 (by omega)⟩
    · rw [pk_ge (by omega)] at h
      exact absurd (UInt8.toNat_inj.1 (by show c.toNat = 0; omega)) h0
  · rintro ⟨hlt, e⟩
    rw [pk_lt hlt, e]
theorem sign_yes {s : ByteArray} {a : Nat} {c : UInt8} (h0 : c ≠ 0) (h : pk s a = (c.toNat : Int)) : a < s.size ∧ signP c (dr s a) = .ok () (dr s (a + 1)) := by
  obtain ⟨hlt, e⟩ := (pk_is h0).1 h
  exact ⟨hlt, by rw [dr_lt hlt, signP, if_pos e]⟩
theorem sign_nay {s : ByteArray} {a : Nat} {c : UInt8} (h0 : c ≠ 0) (h : pk s a ≠ (c.toNat : Int)) : signP c (dr s a) = .bad (dr s a) 10 := by
  by_cases hlt : a < s.size
  · rw [dr_lt hlt, signP, if_neg (fun e => h ((pk_is h0).2 ⟨hlt, e⟩))]
  · rw [dr_ge (by omega)]; rfl
theorem jgr_row {w X : World} {r : Option Nat} {b : Nat} (h : w.grownBy X r) (hb : w.heap.size ≤ b) (A : Array Value) : w.grownBy (X.setRow b A) r := ⟨h.os, h.tape, h.output, by rw [setRow_size]; exact h.size, fun k hk hr => (setRow_other _ _ _ _ (by omega)).trans (h.block k hk hr)⟩
theorem AftJ.row {s : ByteArray} {rb b : Nat} {w w' : World} {α : Type} {x : Res α} (h : AftJ s rb w w' x) (hb : w.heap.size ≤ b) (hr : rb ≠ b) (A : Array Value) : AftJ s rb w (w'.setRow b A) x := by
  cases x with
  | ok v r =>
    obtain ⟨a, h1, h2, h3, h4⟩ := h
    exact ⟨a, h1, h2, RH.row_other h3 hr A, jgr_row h4 hb A⟩
  | bad q er =>
    obtain ⟨a, h1, h2, h3⟩ := h
    exact ⟨a, h1, RH.row_other h2 hr A, jgr_row h3 hb A⟩
/-- in a loop: all went well and this is left to read; or an error has come -/
def GoJ (s : ByteArray) (rb : Nat) (w wr : World) {α : Type} (x y : Res α) (a : Nat) : Prop := (x = y ∧ RJ wr rb s a (-1) 0 ∨ ∃ q er, x = .bad q er ∧ RJ wr rb s a ((s.size - q.length : Nat) : Int) er) ∧ a ≤ s.size ∧ w.grownBy wr (some rb)
set_option maxRecDepth 100000 in
set_option maxHeartbeats 8000000 in
theorem jword_at (rb : Nat) (s ws : ByteArray) (a : Nat) (k n : Int) (w : World) (h : RJ w rb s a (-1) 0) (hs : s.size ≤ 1000000) (ha : a ≤ s.size) (hw : ws.size ≤ 100) (hz : ∀ (j : Nat) (h : j < ws.size), ws[j] ≠ 0) : Calls Tryz.prog 25 #[.pointer (some ⟨rb, 0, none⟩), .string ws, .agg (vAr k n eB (.slice none 0 0) (.slice none 0 0))] w fun e w' => e = .returned (.agg (vAr k n eB (.slice none 0 0) (.slice none 0 0))) ∧ AftJ s rb w w' (wordP ws.data.toList (dr s a)) := by
  have hw1 : (ws.size : Int) ≤ 100 := by omega
  have HR := Lib.hid h
  have HZ := Lib.hid hz
  have HRB : Hid (rb < w.heap.size) := Lib.hid h.lt
  obtain ⟨x, hx⟩ : ∃ x, wordP ws.data.toList (dr s a) = x := ⟨_, rfl⟩
  have HX0 : Hid (wordP (dr ws 0) (dr s a) = x) := Lib.hid hx
  rw [hx]
  clear h hx hz
  go_enter Tryz.func25, Tryz.ntmps25
  go_upto_region 1 with (fail)
  refine Tx.wp_vr2 fun W hbW hR1 hR2 => ?_
  have HP0 := Lib.hid hR1
  have HT0 := Lib.hid hR2
  have HG0 := Lib.hid (gr_below hbW (some rb))
  have HJ0 : Hid (GoJ s rb w W x (wordP (dr ws 0) (dr s a)) a) := Lib.hid ⟨.inl ⟨HX0.out.symm, HR.out.ext hbW⟩, ha, HG0.out⟩
  have HTB : Hid (some w.heap.size ≠ some rb ∧ some (w.heap.size + 1) ≠ some rb) := Lib.hid (by have := HRB.out; simp; omega)
  clear hR1 hR2 hbW HG0 HX0 HR ha
  go_wp2_with fail
  go_loopw [10] (fun p wr => ∃ j a' : Nat, j ≤ ws.size ∧ p = .int .i64 (j : Int) ∧ Hid (GoJ s rb w wr x (wordP (dr ws j) (dr s a')) a') ∧ Hid (RH wr w.heap.size (vAr k n eB (.slice none 0 0) (.slice none 0 0)) 25) ∧ Hid (RH wr (w.heap.size + 1) (vAr 0 0 eB (.slice none 0 0) (.slice none 0 0)) 25)) (fun p _ => ws.size - (intOf p).toNat)
  case atStart => exact ⟨0, a, Nat.zero_le _, rfl, HJ0, HP0, HT0⟩
  case round =>
    clear HJ0 HP0 HT0
    obtain ⟨j, a', hj, rfl, HJ, HP, HT⟩ := hrel
    generalize hXX : wr = X at *
    clear hXX
    have hj0 : (0 : Int) ≤ (j : Int) := Int.natCast_nonneg _
    by_cases hlt : j < ws.size
    · have hji : (j : Int) < (ws.size : Int) := by omega
      have HLT := Lib.hid hlt
      have HD : Hid (wordP (dr ws j) (dr s a') = (signP ws[j] (dr s a')).bind fun _ r => wordP (dr ws (j + 1)) r) := Lib.hid (by rw [dr_lt hlt, wordP]; try rfl)
      have HC0 : Hid (ws[j] ≠ 0) := Lib.hid (HZ.out j hlt)
      obtain ⟨hgo, ha', hg0⟩ := HJ.out
      have HA := Lib.hid ha'
      have HGX := Lib.hid hg0
      clear HJ ha' hg0
      rcases hgo with ⟨hxe, hR⟩ | ⟨q, er, hxe, hR⟩
      · have HXE := Lib.hid hxe
        have HR := Lib.hid hR
        clear hxe hR
        by_cases hc : pk s a' = (ws[j].toNat : Int)
        · have HS := Lib.hid (sign_yes HC0.out hc)
          have HC := Lib.hid hc
          clear hc
          go_wp2_with fail
          refine (must_ok rb s a' _ X HR.out hs HS.out.1 HC.out).mono ?_
          rintro e w2 ⟨rfl, hR2, hg2⟩
          have HJ2 : Hid (GoJ s rb w w2 x (wordP (dr ws (j + 1)) (dr s (a' + 1))) (a' + 1)) := Lib.hid ⟨.inl ⟨by rw [HXE.out, HD.out, HS.out.2]; rfl, hR2⟩, HS.out.1, HGX.out.trans hg2⟩
          have HP2 := Lib.hid (Rw.rh_grown HP.out hg2 HTB.out.1)
          have HT2 := Lib.hid (Rw.rh_grown HT.out hg2 HTB.out.2)
          clear hR2 hg2
          go_wp2_with fail
          go_roundw
          case rel => exact ⟨j + 1, (a' + 1), by omega, by go_num, HJ2, HP2, HT2⟩
          case measure => simp [intOf]; omega
        · have HS := Lib.hid (sign_nay HC0.out hc)
          have HC := Lib.hid hc
          clear hc
          go_wp2_with fail
          refine (must_no rb s a' _ X HR.out hs HC.out).mono ?_
          rintro e w2 ⟨rfl, hR2, hg2⟩
          have HJ2 : Hid (GoJ s rb w w2 x (wordP (dr ws (j + 1)) (dr s a')) a') := Lib.hid ⟨.inr ⟨dr s a', 10, by rw [HXE.out, HD.out, HS.out]; rfl, by rw [sub_len HA.out]; exact hR2⟩, HA.out, HGX.out.trans hg2⟩
          have HP2 := Lib.hid (Rw.rh_grown HP.out hg2 HTB.out.1)
          have HT2 := Lib.hid (Rw.rh_grown HT.out hg2 HTB.out.2)
          clear hR2 hg2
          go_wp2_with fail
          go_roundw
          case rel => exact ⟨j + 1, a', by omega, by go_num, HJ2, HP2, HT2⟩
          case measure => simp [intOf]; omega
      · have HXE := Lib.hid hxe
        have HR := Lib.hid hR
        clear hxe hR
        go_wp2_with fail
        refine (must_err rb s a' _ er _ X HR.out hs (Int.natCast_nonneg _) (fun e => HC0.out (UInt8.toNat_inj.1 (by show ws[j].toNat = 0; omega)))).mono ?_
        rintro e w2 ⟨rfl, hR2, hg2⟩
        have HJ2 : Hid (GoJ s rb w w2 x (wordP (dr ws (j + 1)) (dr s a')) a') := Lib.hid ⟨.inr ⟨q, er, HXE.out, hR2⟩, HA.out, HGX.out.trans hg2⟩
        have HP2 := Lib.hid (Rw.rh_grown HP.out hg2 HTB.out.1)
        have HT2 := Lib.hid (Rw.rh_grown HT.out hg2 HTB.out.2)
        clear hR2 hg2
        go_wp2_with fail
        go_roundw
        case rel => exact ⟨j + 1, a', by omega, by go_num, HJ2, HP2, HT2⟩
        case measure => simp [intOf]; omega
    · have HF : Hid (AftJ s rb w X x) := Lib.hid (by
        obtain ⟨hgo, ha', hg0⟩ := HJ.out
        rcases hgo with ⟨hxe, hR⟩ | ⟨q, er, hxe, hR⟩
        · rw [hxe, dr_ge (by omega), wordP]
          exact ⟨a', ha', rfl, hR, hg0⟩
        · rw [hxe]
          exact ⟨a', ha', hR, hg0⟩)
      have HFI : Hid (AftJ s rb w (X.setRow (w.heap.size + 1) (vAr k n eB (.slice none 0 0) (.slice none 0 0))) x) := Lib.hid (HF.out.row (by omega) (by have := HRB.out; omega) _)
      obtain ⟨a0, a1, a2, a3, a4⟩ := va5 HP.out
      clear HF HJ
      go_wp2_with (refine wpList_store_row rfl _ _ _ rfl (w.heap.size + 1) (vAr k n eB (.slice none 0 0) (.slice none 0 0)) rfl rfl _ _ HT.out (v_inf5 _ _ _ _ _) rfl (v_all5 _ _ _ _ _ _ _ _ _) ?_)
      (try simp only [Exit.inBlock, Exit.then])
      refine bodyPost_ret (v := .agg (vAr k n eB (.slice none 0 0) (.slice none 0 0))) (results_cell_row rfl _ _ _ _ _ _ _ rfl (HT.out.row _) Tryz.underlying25 rfl (v_inf5 _ _ _ _ _)) rfl ?_
      exact ⟨rfl, HFI.out⟩
set_option maxRecDepth 100000 in
set_option maxHeartbeats 8000000 in
theorem more_err (rb : Nat) (s : ByteArray) (a : Nat) (b f cc : Int) (w : World) (h : RJ w rb s a b f) (hs : s.size ≤ 1000000) (hb : 0 ≤ b) (hc : cc ≠ 0) : Calls Tryz.prog 46 #[.pointer (some ⟨rb, 0, none⟩), .int .u8 cc] w fun e w' => e = .returned (.bool false) ∧ RJ w' rb s a b f ∧ w.grownBy w' (some rb) := by
  have HR := Lib.hid h
  have HB := Lib.hid hb
  have HC := Lib.hid hc
  clear h hb hc
  go_enter Tryz.func46, Tryz.ntmps46
  go_wp2_with fail
  refine (jblanks_no rb s a b f w HR.out hs HB.out).mono ?_
  rintro e w1 ⟨rfl, hR, hg⟩
  have HR1 := Lib.hid hR
  have HG1 := Lib.hid hg
  clear hR hg
  go_wp2_with fail
  refine (jnext_at rb s a b f w1 HR1.out hs).mono ?_
  rw [nx_bad s a HB.out]
  rintro e w2 ⟨rfl, hR, hg, -⟩
  have HR2 := Lib.hid hR
  have HG2 := Lib.hid (HG1.out.trans hg)
  clear hR hg
  go_wp2_with fail
  refine (must_err rb s a b f cc w2 HR2.out hs HB.out HC.out).mono ?_
  rintro e w3 ⟨rfl, hR, hg⟩
  have HR3 := Lib.hid hR
  have HG3 := Lib.hid (HG2.out.trans hg)
  clear hR hg
  go_wp2
  go_ret
  exact ⟨rfl, HR3.out, HG3.out⟩
/-- what more answers: blanks behind a comma stand -/
def MoreJ (s : ByteArray) (rb a0 : Nat) (w : World) (x : Res Bool) (e : Ending) (w' : World) : Prop := match x with
  | .ok true t => e = .returned (.bool true) ∧ ∃ a, a0 < a ∧ a ≤ s.size ∧ skipW (dr s a) = t ∧ RJ w' rb s a (-1) 0 ∧ w.grownBy w' (some rb)
  | .ok false t => e = .returned (.bool false) ∧ ∃ a, a ≤ s.size ∧ dr s a = t ∧ RJ w' rb s a (-1) 0 ∧ w.grownBy w' (some rb)
  | .bad q er => e = .returned (.bool false) ∧ BadJ s rb w w' q er
theorem moreJ_at {s : ByteArray} {a a4 : Nat} {c : UInt8} (h : dr s a4 = skipW (dr s a)) : moreP c (dr s a) = if a4 < s.size then (if pk s a4 = 44 then .ok true (skipW (dr s (a4 + 1))) else if pk s a4 = (c.toNat : Int) then .ok false (dr s (a4 + 1)) else .bad (dr s a4) 10) else .bad (dr s a4) 10 := by
  unfold moreP
  rw [← h]
  by_cases hlt : a4 < s.size
  · rw [dr_lt hlt, if_pos hlt, pk_lt hlt]
    simp only
    by_cases e1 : s[a4] = 44
    · rw [if_pos e1, if_pos (by rw [e1]; rfl)]
    · rw [if_neg e1, if_neg (fun (e : (s[a4].toNat : Int) = 44) => e1 (UInt8.toNat_inj.1 (by show _ = 44; omega)))]
      by_cases e2 : s[a4] = c
      · rw [if_pos e2, if_pos (by rw [e2])]
      · rw [if_neg e2, if_neg (fun (e : (s[a4].toNat : Int) = (c.toNat : Int)) => e2 (UInt8.toNat_inj.1 (by omega)))]
  · rw [dr_ge (by omega), if_neg hlt]
set_option maxRecDepth 100000 in
set_option maxHeartbeats 8000000 in
theorem jmore_at (rb : Nat) (s : ByteArray) (a : Nat) (c : UInt8) (w : World) (h : RJ w rb s a (-1) 0) (hs : s.size ≤ 1000000) (ha : a ≤ s.size) (hc : c ≠ 0) : Calls Tryz.prog 46 #[.pointer (some ⟨rb, 0, none⟩), .int .u8 (c.toNat : Int)] w (MoreJ s rb a w (moreP c (dr s a))) := by
  have hs1 : (s.size : Int) ≤ 1000000 := by omega
  have HR := Lib.hid h
  have HC := Lib.hid hc
  obtain ⟨x, hx⟩ : ∃ x, moreP c (dr s a) = x := ⟨_, rfl⟩
  have HX := Lib.hid hx
  rw [hx]
  obtain ⟨cc, hcc⟩ : ∃ cc : Int, (c.toNat : Int) = cc := ⟨_, rfl⟩
  have HCC := Lib.hid hcc
  rw [hcc]
  clear h hc hx hcc
  go_enter Tryz.func46, Tryz.ntmps46
  go_wp2_with fail
  refine (jblanks_at rb s a w HR.out hs ha).mono ?_
  rintro e w1 ⟨rfl, a4, ha4, hd4, hR, hg⟩
  have HR1 := Lib.hid hR
  have HG1 := Lib.hid hg
  have HA4 := Lib.hid ha4
  have HMO := Lib.hid (HX.out.symm.trans (moreJ_at (c := c) hd4))
  have HAA : Hid (a < a4 + 1) := Lib.hid (by
    have h9 := skipW_len (dr s a)
    rw [← hd4, dr_len ha4, dr_len ha] at h9
    omega)
  clear hR hg hd4 HX
  go_wp2_with fail
  refine (jnext_at rb s a4 (-1) 0 w1 HR1.out hs).mono ?_
  rw [nx_ok]
  rintro e w2 ⟨rfl, hR, hg, -⟩
  have HR2 := Lib.hid hR
  have HG2 := Lib.hid (HG1.out.trans hg)
  clear hR hg HR1 HG1
  by_cases hp : pk s a4 = 44
  · have hpb : (pk s a4 == 44) = true := by simpa using hp
    have HLT : Hid (a4 < s.size) := Lib.hid (Classical.byContradiction fun hn => by rw [pk_ge (by omega)] at hp; omega)
    have ha4i : (a4 : Int) < (s.size : Int) := by have := HLT.out; omega
    have h0 : (0 : Int) ≤ (a4 : Int) := Int.natCast_nonneg _
    have HXO : Hid (x = .ok true (skipW (dr s (a4 + 1)))) := Lib.hid (by rw [HMO.out, if_pos HLT.out, if_pos hp])
    clear hp
    obtain ⟨c0, c1, c2, c3⟩ := HR2.out.c
    have z1 := HR2.out.z 1
    have HF : Hid (MoreJ s rb a w x (.returned (.bool true)) (w2.setCell ⟨rb, 1, none⟩ (.int .i64 ((a4 : Int) + 1)))) := Lib.hid (by rw [HXO.out]; exact ⟨rfl, a4 + 1, HAA.out, HLT.out, rfl, HR2.out.next (a4 + 1), HG2.out.trans (gr_set w2 rb 1 (.int .i64 ((a4 : Int) + 1)))⟩)
    go_wp2
    (try simp only [Exit.inBlock, Exit.then])
    go_ret
    exact HF.out
  · have hpb : (pk s a4 == 44) = false := by simpa using hp
    by_cases hp9 : pk s a4 = cc
    · have HS := Lib.hid (sign_yes HC.out (hp9.trans HCC.out.symm))
      have HP9 := Lib.hid hp9
      have HXO : Hid (x = .ok false (dr s (a4 + 1))) := Lib.hid (by rw [HMO.out, if_pos HS.out.1, if_neg hp, if_pos (hp9.trans HCC.out.symm)])
      clear hp hp9
      go_wp2_with fail
      refine (must_ok rb s a4 cc w2 HR2.out hs HS.out.1 HP9.out).mono ?_
      rintro e w3 ⟨rfl, hR, hg⟩
      have HF : Hid (MoreJ s rb a w x (.returned (.bool false)) w3) := Lib.hid (by rw [HXO.out]; exact ⟨rfl, a4 + 1, HS.out.1, rfl, hR, HG2.out.trans hg⟩)
      clear hR hg
      go_wp2
      go_ret
      exact HF.out
    · have HP9 := Lib.hid hp9
      have HXB : Hid (x = .bad (dr s a4) 10) := Lib.hid (by
        rw [HMO.out]
        by_cases hl : a4 < s.size
        · rw [if_pos hl, if_neg hp, if_neg (fun (e : pk s a4 = (c.toNat : Int)) => hp9 (e.trans HCC.out))]
        · rw [if_neg hl])
      clear hp hp9
      go_wp2_with fail
      refine (must_no rb s a4 cc w2 HR2.out hs HP9.out).mono ?_
      rintro e w3 ⟨rfl, hR, hg⟩
      have HF : Hid (MoreJ s rb a w x (.returned (.bool false)) w3) := Lib.hid (by rw [HXB.out]; exact ⟨rfl, BadJ.at hR HA4.out HA4.out (HG2.out.trans hg)⟩)
      clear hR hg
      go_wp2
      go_ret
      exact HF.out
end Fd
end Go.Proofs.YtbhcfmdogdaodaaGreatDoor
namespace Go.Proofs.YtbhcfmdogdaodaaGreatDoor
open Go.RowKit
namespace Fd
open _root_.Go.Proofs.YtbhcfmdogdaodaaGreatDoor.Nm
open _root_.Go.Proofs.YtbhcfmdogdaodaaGreatDoor.Nt (RH RH.cell RH.box RH.lt RH.new RH.ext RH.fre RH.set RH.other)
/-- what digits answers: the digits themselves -/
def DigJ (most : Nat) (s : ByteArray) (rb : Nat) (w : World) (x : Res (Nat × Nat)) (e : Ending) (w' : World) : Prop := ∃ t : ByteArray, e = .returned (.string t) ∧ Digs t.data.toList ∧ t.size ≤ most ∧ (∀ v r, x = .ok v r → v = (decv t.data.toList, t.size)) ∧ AftJ s rb w w' x
/-- the bytes from a on, k of them -/
def seg (s : ByteArray) (a k : Nat) : List UInt8 := (dr s a).take k
theorem seg_ext {s : ByteArray} {a b k : Nat} (h : a + k = b) : (s.extract a b).data.toList = seg s a k := by
  subst h
  simp only [ByteArray.data_extract, Array.toList_extract]
  rw [List.extract_eq_take_drop]
  unfold seg dr
  rw [show a + k - a = k by omega]
theorem seg_snoc {s : ByteArray} {a k : Nat} (h : a + k < s.size) : seg s a (k + 1) = seg s a k ++ [s[a + k]] := by
  have h1 : k < (dr s a).length := by rw [dr_len (by omega)]; omega
  unfold seg
  rw [List.take_succ_eq_append_getElem h1]
  have e2 : (dr s a)[k]? = some s[a + k] := by
    unfold dr
    rw [List.getElem?_drop, List.getElem?_eq_getElem (by rw [← Lib.size_eq]; exact h)]
    rfl
  have e3 := List.getElem?_eq_getElem h1
  rw [e2] at e3
  rw [← Option.some.inj e3]
theorem seg_len {s : ByteArray} {a k : Nat} (h : a + k ≤ s.size) : (seg s a k).length = k := by
  unfold seg
  rw [List.length_take, dr_len (by omega)]
  omega
set_option maxRecDepth 100000 in
set_option maxHeartbeats 8000000 in
theorem jdigits_at (rb : Nat) (s : ByteArray) (a most : Nat) (w : World) (h : RJ w rb s a (-1) 0) (hs : s.size ≤ 1000000) (ha : a ≤ s.size) (hm : most ≤ 12) : Calls Tryz.prog 49 #[.pointer (some ⟨rb, 0, none⟩), .int .i64 (most : Int)] w (DigJ most s rb w (digP most 0 0 (dr s a))) := by
  have hs1 : (s.size : Int) ≤ 1000000 := by omega
  have hm1 : (most : Int) ≤ 12 := by omega
  have hai : (a : Int) ≤ (s.size : Int) := by omega
  have ha0 : (0 : Int) ≤ (a : Int) := Int.natCast_nonneg _
  have HR0 := Lib.hid h
  have HG0 := Lib.hid (gr_refl w (some rb))
  obtain ⟨x, hx⟩ : ∃ x, digP most 0 0 (dr s a) = x := ⟨_, rfl⟩
  have HX0 : Hid (digP most (decv (seg s a 0)) 0 (dr s (a + 0)) = x) := Lib.hid hx
  have HD0 : Hid (Digs (seg s a 0)) := Lib.hid (fun c hc => by simp [seg] at hc)
  rw [hx]
  obtain ⟨c0, c1, c2, c3⟩ := h.c
  clear h hx
  go_enter Tryz.func49, Tryz.ntmps49
  go_upto_region 2 with (fail)
  clear c0 c1 c2 c3
  go_loopw [] (fun wr => ∃ k : Nat, a + k ≤ s.size ∧ k ≤ most ∧ Hid (Digs (seg s a k)) ∧ Hid (digP most (decv (seg s a k)) k (dr s (a + k)) = x) ∧ Hid (RJ wr rb s (a + k) (-1) 0) ∧ Hid (w.grownBy wr (some rb))) (fun wr => s.size - (intOf ((wr.cell? ⟨rb, 1, none⟩).getD undef)).toNat)
  case atStart => exact ⟨0, ha, Nat.zero_le _, HD0, HX0, HR0, HG0⟩
  case round =>
    clear HD0 HX0 HR0 HG0
    obtain ⟨k, hk, hkm, HD, HX, HR, HG⟩ := hrel
    generalize hXX : wr = X at *
    clear hXX
    obtain ⟨b, hb⟩ : ∃ b, a + k = b := ⟨_, rfl⟩
    have HB := Lib.hid hb
    rw [hb] at hk HX HR
    have HKB := Lib.hid hk
    have HKM := Lib.hid hkm
    have hbk : (b : Int) - (a : Int) = (k : Int) := by omega
    have hb1 : (b : Int) ≤ (s.size : Int) := by omega
    clear hb hk hkm
    go_wp2_with fail
    refine (jnext_at rb s b (-1) 0 X HR.out hs).mono ?_
    rw [nx_ok]
    rintro e w2 ⟨rfl, hR2, hg2, -⟩
    have HR2 := Lib.hid hR2
    have HG2 := Lib.hid (HG.out.trans hg2)
    have HMX := Lib.hid (jmeas HR.out)
    clear hR2 hg2 HR HG
    go_wp2_with fail
    refine (isDigit_at (pk s b) w2).mono ?_
    by_cases hd : 48 ≤ pk s b ∧ pk s b ≤ 57
    · have HDG : Hid ((decide (48 ≤ pk s b) && decide (pk s b ≤ 57)) = true) := Lib.hid (by rw [decide_eq_true hd.1, decide_eq_true hd.2]; rfl)
      rw [HDG.out]
      rintro e w3 ⟨rfl, hw⟩
      have hw := hw.symm
      subst hw
      obtain ⟨d, hd1⟩ : ∃ d : Nat, pk s b = 48 + (d : Int) := ⟨(pk s b - 48).toNat, by omega⟩
      have HM := Lib.hid (digP_more (most := most) (n := decv (seg s a k)) (k := k) hd1 (by omega))
      have HLT : Hid (b < s.size) := Lib.hid HM.out.1
      have HPD := Lib.hid hd1
      have HD9 : Hid (d ≤ 9) := Lib.hid (by omega)
      obtain ⟨c0, c1, c2, c3⟩ := HR2.out.c
      have z1 := HR2.out.z 1
      clear hd1 hd
      by_cases hkm : k = most
      · have hkb : ((k : Int) == (most : Int)) = true := beq_iff_eq.2 (by omega)
        have HXB : Hid (x = .bad (dr s b) 10) := Lib.hid (by rw [← HX.out, HM.out.2, if_pos hkm])
        clear hkm
        go_wp2_with fail
        refine (jfail_ok rb s b b 10 w2 HR2.out).mono ?_
        rintro e w4 ⟨rfl, hR, hg⟩
        have HF : Hid (DigJ most s rb w x (.returned (.string ⟨#[]⟩)) w4) := Lib.hid ⟨⟨#[]⟩, rfl, (fun c hc => by cases hc), Nat.zero_le _, (fun v r e => by rw [HXB.out] at e; cases e), by rw [HXB.out]; exact BadJ.at hR HKB.out HKB.out (HG2.out.trans hg)⟩
        clear hR hg c0 c1 c2 c3 z1
        go_wp2
        (try simp only [Exit.inBlock, Exit.then])
        go_ret
        exact HF.out
      · have hkb : ((k : Int) == (most : Int)) = false := beq_eq_false_iff_ne.2 (by omega)
        have hbi : (b : Int) < (s.size : Int) := by have := HLT.out; omega
        have hb0 : (0 : Int) ≤ (b : Int) := Int.natCast_nonneg _
        have HS : Hid (seg s a (k + 1) = seg s a k ++ [s[b]'HLT.out]) := Lib.hid (by have h9 := seg_snoc (s := s) (a := a) (k := k) (by have := HLT.out; have := HB.out; omega); simpa only [HB.out] using h9)
        have HDV : Hid (digv (s[b]'HLT.out) = d) := Lib.hid (by
          have h9 := HPD.out
          rw [pk_lt HLT.out] at h9
          unfold digv; omega)
        have HND : Hid (Digs (seg s a (k + 1))) := Lib.hid (by
          rw [HS.out]
          intro c hc
          rcases List.mem_append.1 hc with hc | hc
          · exact HD.out c hc
          · rw [List.mem_singleton.1 hc]
            have h9 := HDV.out
            have h8 := HPD.out
            rw [pk_lt HLT.out] at h8
            unfold digv at h9
            have h7 := HD9.out
            omega)
        have HNX : Hid (digP most (decv (seg s a (k + 1))) (k + 1) (dr s (b + 1)) = x) := Lib.hid (by rw [HS.out, decv_snoc, HDV.out, ← HX.out, HM.out.2, if_neg hkm])
        have HR3 : Hid (RJ (w2.setCell ⟨rb, 1, none⟩ (.int .i64 ((b : Int) + 1))) rb s (b + 1) (-1) 0) := Lib.hid (HR2.out.next (b + 1))
        have HG3 := Lib.hid (HG2.out.trans (gr_set w2 rb 1 (.int .i64 ((b : Int) + 1))))
        go_wp2
        go_roundw
        case rel => exact ⟨k + 1, by have := HB.out; have := HLT.out; omega, by have := HKM.out; omega, HND, Lib.hid (by rw [show a + (k + 1) = b + 1 by have := HB.out; omega]; exact HNX.out), Lib.hid (by rw [show a + (k + 1) = b + 1 by have := HB.out; omega]; exact HR3.out), HG3⟩
        case measure => rw [jmeas HR3.out, HMX.out]; have := HLT.out; omega
    · have HDG : Hid ((decide (48 ≤ pk s b) && decide (pk s b ≤ 57)) = false) := Lib.hid (by
        by_cases h1 : 48 ≤ pk s b
        · rw [decide_eq_false (fun h2 => hd ⟨h1, h2⟩)]; exact Bool.and_false _
        · rw [decide_eq_false h1]; rfl)
      rw [HDG.out]
      rintro e w3 ⟨rfl, hw⟩
      have hw := hw.symm
      subst hw
      have HE := Lib.hid (HX.out.symm.trans (digP_end (most := most) (n := decv (seg s a k)) (k := k) hd))
      have HSE : Hid ((s.extract a b).data.toList = seg s a k) := Lib.hid (seg_ext HB.out)
      have HSZ : Hid ((s.extract a b).size = k) := Lib.hid (by rw [Lib.size_eq, HSE.out, seg_len (by have := HB.out; have := HKB.out; omega)])
      obtain ⟨c0, c1, c2, c3⟩ := HR2.out.c
      clear hd
      by_cases hk0 : k = 0
      · have hkb : ((b : Int) == (a : Int)) = true := by have := HB.out; simp; omega
        have HXB : Hid (x = .bad (dr s b) 10) := Lib.hid (by rw [HE.out, if_pos hk0])
        clear hk0
        go_wp2_with fail
        refine (jfail_ok rb s b b 10 w2 HR2.out).mono ?_
        rintro e w4 ⟨rfl, hR, hg⟩
        have HR4 := Lib.hid hR
        have HG4 := Lib.hid (HG2.out.trans hg)
        clear hR hg c0 c1 c2 c3
        obtain ⟨c0, c1, c2, c3⟩ := HR4.out.c
        have HV : Hid (∀ v r, x = .ok v r → v = (decv (s.extract a b).data.toList, (s.extract a b).size)) := Lib.hid (fun v r e => by rw [HXB.out] at e; cases e)
        have HA : Hid (∀ n, AftJ s rb w (w4.drewN n) x) := Lib.hid (fun n => by
          rw [HXB.out]
          exact BadJ.at (HR4.out.ext (below_drewN (Below.refl _ _) n)) HKB.out HKB.out (HG4.out.trans (gr_below (below_drewN (Below.refl _ _) n) _)))
        go_upto_region 9 with (fail)
        go_quiet (fail)
        go_wp2
        go_ret
        exact ⟨s.extract a b, rfl, by rw [HSE.out]; exact HD.out, by rw [HSZ.out]; exact HKM.out, HV.out, HA.out _⟩
      · have hkb : ((b : Int) == (a : Int)) = false := by have := HB.out; simp; omega
        have HXO : Hid (x = .ok (decv (seg s a k), k) (dr s b)) := Lib.hid (by rw [HE.out, if_neg hk0])
        clear hk0
        have HV : Hid (∀ v r, x = .ok v r → v = (decv (s.extract a b).data.toList, (s.extract a b).size)) := Lib.hid (fun v r e => by rw [HXO.out] at e; cases e; rw [HSE.out, HSZ.out])
        have HA : Hid (∀ n, AftJ s rb w (w2.drewN n) x) := Lib.hid (fun n => by
          rw [HXO.out]
          exact ⟨b, HKB.out, rfl, HR2.out.ext (below_drewN (Below.refl _ _) n), HG2.out.trans (gr_below (below_drewN (Below.refl _ _) n) _)⟩)
        go_upto_region 9 with (fail)
        go_quiet (fail)
        go_wp2
        go_ret
        exact ⟨s.extract a b, rfl, by rw [HSE.out]; exact HD.out, by rw [HSZ.out]; exact HKM.out, HV.out, HA.out _⟩
end Fd
end Go.Proofs.YtbhcfmdogdaodaaGreatDoor
namespace Go.Proofs.YtbhcfmdogdaodaaGreatDoor
open Go.RowKit
namespace Fd
open _root_.Go.Proofs.YtbhcfmdogdaodaaGreatDoor.Nm
open _root_.Go.Proofs.YtbhcfmdogdaodaaGreatDoor.Nt (RH RH.cell RH.box RH.lt RH.new RH.ext RH.fre RH.set RH.other)
/-- what sixteen answers -/
def sixN (c : UInt8) : Int := match hexd c with
  | none => -1
  | some d => (d : Int)
theorem sixN_some {c : UInt8} {d : Nat} (h : hexd c = some d) : sixN c = (d : Int) := by unfold sixN; rw [h]
theorem sixN_none {c : UInt8} (h : hexd c = none) : sixN c = -1 := by unfold sixN; rw [h]
theorem hexd_le {c : UInt8} {d : Nat} (h : hexd c = some d) : 48 ≤ c.toNat ∧ c.toNat ≤ 102 ∧ d ≤ 15 := by
  unfold hexd at h
  split at h
  · cases h; omega
  · split at h
    · cases h; omega
    · split at h
      · cases h; omega
      · cases h
theorem enc_one {c : UInt8} (h : c.toNat ≤ 127) : Utf8.encode (c.toNat : Int) = ⟨#[c]⟩ := by
  have k : ∀ n : Fin 128, (Utf8.encode (n.val : Int)).data = #[UInt8.ofNat n.val] := by decide +kernel
  have h9 := k ⟨c.toNat, by omega⟩
  have ec : UInt8.ofNat c.toNat = c := by simp
  rw [show ((⟨c.toNat, by omega⟩ : Fin 128).val) = c.toNat from rfl, ec] at h9
  generalize Utf8.encode (c.toNat : Int) = u at h9
  cases u with
  | mk d => rw [show d = #[c] from h9]
theorem six_ix {c : UInt8} (h : c.toNat ≤ 127) : Lib.indexByte [48, 49, 50, 51, 52, 53, 54, 55, 56, 57, 97, 98, 99, 100, 101, 102] (Lib.lowerB c) = sixN c := by
  have k : ∀ n : Fin 128, Lib.indexByte [48, 49, 50, 51, 52, 53, 54, 55, 56, 57, 97, 98, 99, 100, 101, 102] (Lib.lowerB (UInt8.ofNat n.val)) = sixN (UInt8.ofNat n.val) := by decide +kernel
  have h9 := k ⟨c.toNat, by omega⟩
  have ec : UInt8.ofNat c.toNat = c := by simp
  rw [show ((⟨c.toNat, by omega⟩ : Fin 128).val) = c.toNat from rfl, ec] at h9
  exact h9
theorem low_at {c : UInt8} (h : c.toNat ≤ 127) (w : World) : Calls Tryz.prog 88 #[.string ⟨#[c]⟩] w fun e w' => e = .returned (.string ⟨#[Lib.lowerB c]⟩) ∧ Below w.heap.size w w' :=
  Tryz.strings_ToLower_ascii ⟨#[c]⟩ w (by show 1 ≤ _; decide) (fun j b hb => by
    have h1 : [c][j]? = some b := hb
    have h2 := List.mem_of_getElem? h1
    rw [List.mem_singleton.1 h2]; omega)
theorem back_u8 (u : UInt8) : ((u.toNat : Int)).toNat.toUInt8 = u := by
  rw [Int.toNat_natCast]
  exact UInt8.ofNat_toNat
set_option maxRecDepth 100000 in
set_option maxHeartbeats 8000000 in
theorem sixteen_at (c : UInt8) (hc : c.toNat ≤ 127) (w : World) : Calls Tryz.prog 65 #[.int .u8 (c.toNat : Int)] w fun e w' => e = .returned (.int .i64 (sixN c)) ∧ Below w.heap.size w w' := by
  have hc1 : (c.toNat : Int) ≤ 127 := by omega
  have hc0 : (0 : Int) ≤ (c.toNat : Int) := Int.natCast_nonneg _
  have HC := Lib.hid hc
  clear hc
  go_enter Tryz.func65, Tryz.ntmps65
  go_wp2_with fail
  rw [enc_one HC.out]
  refine (low_at HC.out w).mono ?_
  obtain ⟨u, hu⟩ : ∃ u, Lib.lowerB c = u := ⟨_, rfl⟩
  have HU := Lib.hid hu
  rw [hu]
  clear hu
  rintro e w1 ⟨rfl, hb1⟩
  have HB1 := Lib.hid hb1
  clear hb1
  go_wp2_with fail
  refine (ixb_at _ _ w1).mono ?_
  rintro e w2 ⟨rfl, hw⟩
  have hw := hw.symm
  subst hw
  go_wp2
  go_ret
  refine ⟨?_, HB1.out⟩
  rw [← six_ix HC.out, HU.out]
  first | rfl | (rw [back_u8]; rfl) | simp [back_u8]
end Fd
end Go.Proofs.YtbhcfmdogdaodaaGreatDoor
