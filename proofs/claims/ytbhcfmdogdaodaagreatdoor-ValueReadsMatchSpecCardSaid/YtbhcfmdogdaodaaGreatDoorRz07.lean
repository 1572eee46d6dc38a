/- blanks, sign and word of the program's reader. Printed by gen_rda.py. sign and word of the program's reader. Printed by gen_rda.py. word of the program's reader; what a step leaves. Printed by gen_rda.py. digitsOf of the program's reader. Printed by gen_rda.py. find of package value: where a name stands in fields that are in order. Printed by gen_vfnd.py. -/
import Derived.Test.YtbhcfmdogdaodaaGreatDoorRz06
import Derived.Test.YtbhcfmdogdaodaaGreatDoorRz03
import Derived.Test.YtbhcfmdogdaodaaGreatDoorRz04
import Derived.Test.YtbhcfmdogdaodaaGreatDoorRz00
import Derived.Test.YtbhcfmdogdaodaaGreatDoorRz02
import Derived.Deep.LoopGhost
import Derived.Deep.QuietTactic
import Derived.Deep.Cut
namespace Go.Proofs.YtbhcfmdogdaodaaGreatDoor
open Go.RowKit
namespace Fd
open _root_.Go.Proofs.YtbhcfmdogdaodaaGreatDoor.Nm
open _root_.Go.Proofs.YtbhcfmdogdaodaaGreatDoor.Nt (RH RH.cell RH.box RH.lt RH.new RH.ext RH.fre RH.set RH.other)
theorem meas_x {w : World} {rb k : Nat} (h : w.cell? ⟨rb, 1, none⟩ = some (.int .i64 (k : Int))) : (intOf ((w.cell? ⟨rb, 1, none⟩).getD undef)).toNat = k := by
  rw [h]; simp [intOf]
theorem meas {w : World} {rb k : Nat} {s : ByteArray} {e i : Int} (h : RD w rb s k e i) : (intOf ((w.cell? ⟨rb, 1, none⟩).getD undef)).toNat = k := meas_x h.c.2.1
theorem ixb_at (s : ByteArray) (c : Int) (w : World) : Calls Tryz.prog 16 #[.string s, .int .u8 c] w fun e w' => e = .returned (.int .i64 (Lib.indexByte s.data.toList c.toNat.toUInt8)) ∧ w' = w := by
  go_enter Tryz.func16, Tryz.ntmps16
  go_wp2_with (go_at_call 35; refine (Tryz.stringslite_IndexByte _ _ _).mono ?_; rintro e w' ⟨rfl, rfl⟩)
  go_ret
  exact ⟨rfl, rfl⟩
theorem ixb_q (s : ByteArray) (c : Int) (w : World) : Calls Tryz.prog 16 #[.string s, .int .u8 c] w fun e w' => e = .returned (.int .i64 (Lib.indexByte s.data.toList c.toNat.toUInt8)) ∧ ∃ n, w' = w.drewN n :=
  (ixb_at s c w).mono (fun _ _ h => ⟨h.1, 0, h.2⟩)
/-- is the byte one of the blanks, as the program asks it -/
theorem blank_ix (c : UInt8) : (0 ≤ Lib.indexByte [9, 10, 13, 32] c) ↔ blankB c = true := by
  unfold blankB
  simp only [Lib.indexByte]
  by_cases h1 : c = 9
  · subst h1; decide
  by_cases h2 : c = 10
  · subst h2; decide
  by_cases h3 : c = 13
  · subst h3; decide
  by_cases h4 : c = 32
  · subst h4; decide
  have e1 : ((9 : UInt8) == c) = false := beq_eq_false_iff_ne.2 (fun e => h1 e.symm)
  have e2 : ((10 : UInt8) == c) = false := beq_eq_false_iff_ne.2 (fun e => h2 e.symm)
  have e3 : ((13 : UInt8) == c) = false := beq_eq_false_iff_ne.2 (fun e => h3 e.symm)
  have e4 : ((32 : UInt8) == c) = false := beq_eq_false_iff_ne.2 (fun e => h4 e.symm)
  simp [h1, h2, h3, h4, e1, e2, e3, e4]
set_option maxRecDepth 100000 in
set_option maxHeartbeats 8000000 in
theorem blanks_at (rb : Nat) (s : ByteArray) (a : Nat) (e0 i : Int) (w : World) (h : RD w rb s a e0 i) (hs : s.size ≤ 1000000) (ha : a ≤ s.size) : Calls Tryz.prog 7 #[.pointer (some ⟨rb, 0, none⟩)] w fun e w' => e = .returned (.tuple #[]) ∧ ∃ a', a' ≤ s.size ∧ dr s a' = skipW (dr s a) ∧ RD w' rb s a' e0 i ∧ w.grownBy w' (some rb) := by
  have hs1 : (s.size : Int) ≤ 1000000 := by omega
  have HR0 := Lib.hid h
  have HG0 := Lib.hid (gr_refl w (some rb))
  obtain ⟨l, hl⟩ : ∃ l, skipW (dr s a) = l := ⟨_, rfl⟩
  have HL0 := Lib.hid hl
  rw [hl]
  clear h hl
  go_enter Tryz.func7, Tryz.ntmps7
  go_wp2_with fail
  go_loopw [2] (fun _ wr => ∃ k : Nat, k ≤ s.size ∧ Hid (skipW (dr s k) = l) ∧ Hid (RD wr rb s k e0 i) ∧ Hid (w.grownBy wr (some rb))) (fun _ wr => s.size - (intOf ((wr.cell? ⟨rb, 1, none⟩).getD undef)).toNat)
  case atStart => exact ⟨a, ha, HL0, HR0, HG0⟩
  case round =>
    clear HL0 HR0 HG0
    obtain ⟨k, hk, HL, HR, HG⟩ := hrel
    generalize hXX : wr = X at *
    clear hXX
    obtain ⟨c0, c1, c2, c3⟩ := HR.out.c
    have h0 : (0 : Int) ≤ (k : Int) := Int.natCast_nonneg _
    by_cases hlt : k < s.size
    · have hli : (k : Int) < (s.size : Int) := by omega
      have hld : decide ((k : Int) < (s.size : Int)) = true := decide_eq_true hli
      by_cases hb : blankB s[k] = true
      · have hge : (0 : Int) ≤ Lib.indexByte [9, 10, 13, 32] s[k] := (blank_ix _).2 hb
        have HN : Hid (skipW (dr s (k + 1)) = l) := Lib.hid (by rw [← HL.out, dr_lt hlt, skipW, if_pos hb])
        have z1 := HR.out.z 1
        clear HL hb
        go_upto_region 0 with (fail)
        go_quiet (first | (go_at_call 16; refine Calls.quiet_of (ixb_q _ _ _)))
        have HR2 := Lib.hid (HR.out.ext (below_drewN (Below.refl _ _) nq))
        have HG2 := Lib.hid (HG.out.trans (gr_below (below_drewN (Below.refl _ _) nq) (some rb)))
        have HMX := Lib.hid (meas HR.out)
        clear c0 c1 c2 c3 z1 HR HG
        generalize X.drewN nq = X2 at *
        obtain ⟨c0, c1, c2, c3⟩ := HR2.out.c
        have z1 := HR2.out.z 1
        have HR3 : Hid (RD (X2.setCell ⟨rb, 1, none⟩ (.int .i64 ((k : Int) + 1))) rb s (k + 1) e0 i) := Lib.hid (HR2.out.next (k + 1))
        have HG3 := Lib.hid (HG2.out.trans (gr_set X2 rb 1 (.int .i64 ((k : Int) + 1))))
        go_wp2
        go_roundw
        case rel => exact ⟨k + 1, by omega, HN, HR3, HG3⟩
        case measure => rw [meas HR3.out, HMX.out]; omega
      · have hge : decide ((0 : Int) ≤ Lib.indexByte [9, 10, 13, 32] s[k]) = false := decide_eq_false (fun h => hb ((blank_ix _).1 h))
        have HN : Hid (dr s k = l) := Lib.hid (by rw [← HL.out, dr_lt hlt, skipW, if_neg hb])
        clear HL hb
        go_upto_region 0 with (fail)
        go_quiet (first | (go_at_call 16; refine Calls.quiet_of (ixb_q _ _ _)))
        have HF : Hid (∃ a', a' ≤ s.size ∧ dr s a' = l ∧ RD (X.drewN nq) rb s a' e0 i ∧ w.grownBy (X.drewN nq) (some rb)) := Lib.hid ⟨k, hk, HN.out, HR.out.ext (below_drewN (Below.refl _ _) nq), HG.out.trans (gr_below (below_drewN (Below.refl _ _) nq) (some rb))⟩
        go_wp2
        go_end0
        exact ⟨rfl, HF.out⟩
    · have hld : decide ((k : Int) < (s.size : Int)) = false := decide_eq_false (by omega)
      have HN : Hid (dr s k = l) := Lib.hid (by rw [← HL.out, dr_ge (by omega)]; rfl)
      clear HL
      go_upto_region 0 with (fail)
      go_quiet (fail)
      have HF : Hid (∃ a', a' ≤ s.size ∧ dr s a' = l ∧ RD (X.drewN nq) rb s a' e0 i ∧ w.grownBy (X.drewN nq) (some rb)) := Lib.hid ⟨k, hk, HN.out, HR.out.ext (below_drewN (Below.refl _ _) nq), HG.out.trans (gr_below (below_drewN (Below.refl _ _) nq) (some rb))⟩
      go_wp2
      go_end0
      exact ⟨rfl, HF.out⟩
end Fd
end Go.Proofs.YtbhcfmdogdaodaaGreatDoor
namespace Go.Proofs.YtbhcfmdogdaodaaGreatDoor
open Go.RowKit
namespace Fd
open _root_.Go.Proofs.YtbhcfmdogdaodaaGreatDoor.Nm
open _root_.Go.Proofs.YtbhcfmdogdaodaaGreatDoor.Nt (RH RH.cell RH.box RH.lt RH.new RH.ext RH.fre RH.set RH.other)
set_option maxRecDepth 100000 in
set_option maxHeartbeats 8000000 in
theorem sign_ok (rb : Nat) (s : ByteArray) (a : Nat) (i cc : Int) (w : World) (h : RD w rb s a 0 i) (hs : s.size ≤ 1000000) (hlt : a < s.size) (hc : (s[a].toNat : Int) = cc) : Calls Tryz.prog 36 #[.pointer (some ⟨rb, 0, none⟩), .int .u8 cc] w fun e w' => e = .returned (.bool true) ∧ RD w' rb s (a + 1) 0 i ∧ w.grownBy w' (some rb) := by
  have hs1 : (s.size : Int) ≤ 1000000 := by omega
  obtain ⟨c0, c1, c2, c3⟩ := h.c
  have h0 : (0 : Int) ≤ (a : Int) := Int.natCast_nonneg _
  have hli : (a : Int) < (s.size : Int) := by omega
  have hld : decide ((a : Int) < (s.size : Int)) = true := decide_eq_true hli
  have hcb : ((s[a].toNat : Int) == cc) = true := by simpa using hc
  have HR := Lib.hid h
  clear h hc
  go_enter Tryz.func36, Tryz.ntmps36
  go_upto_region 1 with (fail)
  go_quiet (fail)
  have HR2 := Lib.hid (HR.out.ext (below_drewN (Below.refl _ _) nq))
  have HG2 := Lib.hid (gr_below (below_drewN (Below.refl w.heap.size w) nq) (some rb))
  clear c0 c1 c2 c3 HR
  generalize w.drewN nq = X2 at *
  obtain ⟨c0, c1, c2, c3⟩ := HR2.out.c
  have z1 := HR2.out.z 1
  have HR3 : Hid (RD (X2.setCell ⟨rb, 1, none⟩ (.int .i64 ((a : Int) + 1))) rb s (a + 1) 0 i) := Lib.hid (HR2.out.next (a + 1))
  have HG3 := Lib.hid (HG2.out.trans (gr_set X2 rb 1 (.int .i64 ((a : Int) + 1))))
  go_wp2
  go_ret
  exact ⟨rfl, HR3.out, HG3.out⟩
set_option maxRecDepth 100000 in
set_option maxHeartbeats 8000000 in
theorem sign_no (rb : Nat) (s : ByteArray) (a : Nat) (i cc : Int) (w : World) (h : RD w rb s a 0 i) (hs : s.size ≤ 1000000) (ha : a ≤ s.size) (hc : ∀ h : a < s.size, (s[a].toNat : Int) ≠ cc) : Calls Tryz.prog 36 #[.pointer (some ⟨rb, 0, none⟩), .int .u8 cc] w fun e w' => e = .returned (.bool false) ∧ RD w' rb s a 10 (a : Int) ∧ w.grownBy w' (some rb) := by
  have hs1 : (s.size : Int) ≤ 1000000 := by omega
  obtain ⟨c0, c1, c2, c3⟩ := h.c
  have h0 : (0 : Int) ≤ (a : Int) := Int.natCast_nonneg _
  have HR := Lib.hid h
  have HC := Lib.hid hc
  clear h hc
  go_enter Tryz.func36, Tryz.ntmps36
  by_cases hlt : a < s.size
  · have hli : (a : Int) < (s.size : Int) := by omega
    have hld : decide ((a : Int) < (s.size : Int)) = true := decide_eq_true hli
    have hcb : ((s[a].toNat : Int) == cc) = false := by simpa using HC.out hlt
    go_upto_region 1 with (fail)
    go_quiet (fail)
    have HR2 := Lib.hid (HR.out.ext (below_drewN (Below.refl _ _) nq))
    have HG2 := Lib.hid (gr_below (below_drewN (Below.refl w.heap.size w) nq) (some rb))
    clear c0 c1 c2 c3 HR
    generalize w.drewN nq = X2 at *
    obtain ⟨c0, c1, c2, c3⟩ := HR2.out.c
    go_wp2_with fail
    refine (fail_ok rb s a a 10 i X2 HR2.out hs ha rfl).mono ?_
    rintro e w3 ⟨rfl, hR3, hg3⟩
    have HR3 := Lib.hid hR3
    have HG3 := Lib.hid (HG2.out.trans hg3)
    clear hR3 hg3
    go_wp2
    go_ret
    exact ⟨rfl, HR3.out, HG3.out⟩
  · have hld : decide ((a : Int) < (s.size : Int)) = false := decide_eq_false (by omega)
    go_upto_region 1 with (fail)
    go_quiet (fail)
    have HR2 := Lib.hid (HR.out.ext (below_drewN (Below.refl _ _) nq))
    have HG2 := Lib.hid (gr_below (below_drewN (Below.refl w.heap.size w) nq) (some rb))
    clear c0 c1 c2 c3 HR
    generalize w.drewN nq = X2 at *
    obtain ⟨c0, c1, c2, c3⟩ := HR2.out.c
    go_wp2_with fail
    refine (fail_ok rb s a a 10 i X2 HR2.out hs ha rfl).mono ?_
    rintro e w3 ⟨rfl, hR3, hg3⟩
    have HR3 := Lib.hid hR3
    have HG3 := Lib.hid (HG2.out.trans hg3)
    clear hR3 hg3
    go_wp2
    go_ret
    exact ⟨rfl, HR3.out, HG3.out⟩
set_option maxRecDepth 100000 in
set_option maxHeartbeats 8000000 in
theorem sign_err (rb : Nat) (s : ByteArray) (a : Nat) (e0 i cc : Int) (w : World) (h : RD w rb s a e0 i) (he : e0 ≠ 0) : Calls Tryz.prog 36 #[.pointer (some ⟨rb, 0, none⟩), .int .u8 cc] w fun e w' => e = .returned (.bool false) ∧ RD w' rb s a e0 i ∧ w.grownBy w' (some rb) := by
  obtain ⟨c0, c1, c2, c3⟩ := h.c
  have heb : (e0 == 0) = false := by simpa using he
  have HR := Lib.hid h
  have HE := Lib.hid he
  clear h he
  go_enter Tryz.func36, Tryz.ntmps36
  go_upto_region 1 with (fail)
  go_quiet (fail)
  have HR2 := Lib.hid (HR.out.ext (below_drewN (Below.refl _ _) nq))
  have HG2 := Lib.hid (gr_below (below_drewN (Below.refl w.heap.size w) nq) (some rb))
  clear c0 c1 c2 c3 HR
  generalize w.drewN nq = X2 at *
  obtain ⟨c0, c1, c2, c3⟩ := HR2.out.c
  go_wp2_with fail
  refine (fail_no rb s a _ _ e0 i X2 HR2.out HE.out).mono ?_
  rintro e w3 ⟨rfl, rfl⟩
  go_wp2
  go_ret
  exact ⟨rfl, HR2.out, HG2.out⟩
end Fd
end Go.Proofs.YtbhcfmdogdaodaaGreatDoor
namespace Go.Proofs.YtbhcfmdogdaodaaGreatDoor
open Go.RowKit
namespace Fd
open _root_.Go.Proofs.YtbhcfmdogdaodaaGreatDoor.Nm
open _root_.Go.Proofs.YtbhcfmdogdaodaaGreatDoor.Nt (RH RH.cell RH.box RH.lt RH.new RH.ext RH.fre RH.set RH.other)
/-- behind a step that went well: r is left -/
def OkS (s : ByteArray) (rb : Nat) (i : Int) (w w' : World) (r : List UInt8) : Prop := ∃ a, a ≤ s.size ∧ dr s a = r ∧ RD w' rb s a 0 i ∧ w.grownBy w' (some rb)
/-- behind an error: q was left there -/
def BadS (s : ByteArray) (rb : Nat) (w w' : World) (q : List UInt8) (er : Int) : Prop := ∃ a, a ≤ s.size ∧ er ≠ 0 ∧ RD w' rb s a er ((s.size - q.length : Nat) : Int) ∧ w.grownBy w' (some rb)
def AftS (s : ByteArray) (rb : Nat) (i : Int) (w w' : World) {α : Type} (x : Res α) : Prop := match x with
  | .ok _ r => OkS s rb i w w' r
  | .bad q er => BadS s rb w w' q er
theorem sub_len {s : ByteArray} {a : Nat} (h : a ≤ s.size) : s.size - (dr s a).length = a := by rw [dr_len h]; omega
theorem BadS.at {s : ByteArray} {rb a : Nat} {er : Int} {w w' : World} (h : RD w' rb s a er (a : Int)) (ha : a ≤ s.size) (hg : w.grownBy w' (some rb)) (hne : er ≠ 0 := by decide) : BadS s rb w w' (dr s a) er := ⟨a, ha, hne, by rw [sub_len ha]; exact h, hg⟩
theorem sign_is {s : ByteArray} {a : Nat} {c : UInt8} (hlt : a < s.size) (h : (s[a].toNat : Int) = (c.toNat : Int)) : signP c (dr s a) = .ok () (dr s (a + 1)) := by
  have e : s[a] = c := UInt8.toNat_inj.1 (by omega)
  rw [dr_lt hlt, signP, if_pos e]
theorem sign_not {s : ByteArray} {a : Nat} {c : UInt8} (h : ∀ h : a < s.size, (s[a].toNat : Int) ≠ (c.toNat : Int)) : signP c (dr s a) = .bad (dr s a) 10 := by
  by_cases hlt : a < s.size
  · rw [dr_lt hlt, signP, if_neg (fun e => h hlt (by rw [e]))]
  · rw [dr_ge (by omega)]; rfl
set_option maxRecDepth 100000 in
set_option maxHeartbeats 8000000 in
theorem word_at (rb : Nat) (s ws : ByteArray) (a : Nat) (i : Int) (w : World) (h : RD w rb s a 0 i) (hs : s.size ≤ 1000000) (ha : a ≤ s.size) (hw : ws.size ≤ 100) : Calls Tryz.prog 18 #[.pointer (some ⟨rb, 0, none⟩), .string ws] w fun e w' => e = .returned (.tuple #[]) ∧ AftS s rb i w w' (wordP ws.data.toList (dr s a)) := by
  have hs1 : (s.size : Int) ≤ 1000000 := by omega
  have hw1 : (ws.size : Int) ≤ 100 := by omega
  have HR0 := Lib.hid h
  have HG0 := Lib.hid (gr_refl w (some rb))
  obtain ⟨x, hx⟩ : ∃ x, wordP ws.data.toList (dr s a) = x := ⟨_, rfl⟩
  have HX0 : Hid (wordP (dr ws 0) (dr s a) = x) := Lib.hid hx
  rw [hx]
  clear h hx
  go_enter Tryz.func18, Tryz.ntmps18
  go_wp2_with fail
  go_loopw [7] (fun p wr => ∃ k a' : Nat, k ≤ ws.size ∧ a' ≤ s.size ∧ p = .int .i64 (k : Int) ∧ Hid (wordP (dr ws k) (dr s a') = x) ∧ Hid (RD wr rb s a' 0 i) ∧ Hid (w.grownBy wr (some rb))) (fun p _ => ws.size - (intOf p).toNat)
  case atStart => exact ⟨0, a, Nat.zero_le _, ha, rfl, HX0, HR0, HG0⟩
  case round =>
    clear HX0 HR0 HG0 ha
    obtain ⟨k, a', hk, ha', rfl, HX, HR, HG⟩ := hrel
    generalize hXX : wr = X at *
    clear hXX
    have hk0 : (0 : Int) ≤ (k : Int) := Int.natCast_nonneg _
    by_cases hlt : k < ws.size
    · have hki : (k : Int) < (ws.size : Int) := by omega
      have HD : Hid (wordP (dr ws k) (dr s a') = (signP ws[k] (dr s a')).bind fun _ r => wordP (dr ws (k + 1)) r) := Lib.hid (by rw [dr_lt hlt, wordP])
      by_cases hc : ∃ h : a' < s.size, (s[a'].toNat : Int) = (ws[k].toNat : Int)
      · obtain ⟨hal, hc⟩ := hc
        have HN : Hid (wordP (dr ws (k + 1)) (dr s (a' + 1)) = x) := Lib.hid (by rw [← HX.out, HD.out, sign_is hal hc]; rfl)
        have HC := Lib.hid hc
        have HAL := Lib.hid hal
        clear hc HX HD
        go_wp2_with fail
        refine (sign_ok rb s a' i _ X HR.out hs HAL.out HC.out).mono ?_
        rintro e w2 ⟨rfl, hR2, hg2⟩
        have HR2 := Lib.hid hR2
        have HG2 := Lib.hid (HG.out.trans hg2)
        clear hR2 hg2
        go_wp2_with fail
        go_roundw
        case rel => exact ⟨k + 1, a' + 1, by omega, by have := HAL.out; omega, by go_num, HN, HR2, HG2⟩
        case measure => simp [intOf]; omega
      · have hc2 : ∀ h : a' < s.size, (s[a'].toNat : Int) ≠ (ws[k].toNat : Int) := fun h e => hc ⟨h, e⟩
        have HN : Hid (x = .bad (dr s a') 10) := Lib.hid (by rw [← HX.out, HD.out, sign_not hc2]; rfl)
        have HC := Lib.hid hc2
        clear hc hc2 HX HD
        go_wp2_with fail
        refine (sign_no rb s a' i _ X HR.out hs ha' HC.out).mono ?_
        rintro e w2 ⟨rfl, hR2, hg2⟩
        have HF : Hid (AftS s rb i w w2 x) := Lib.hid (by rw [HN.out]; exact BadS.at hR2 ha' (HG.out.trans hg2))
        clear hR2 hg2
        go_wp2_with fail
        (try simp only [Exit.inBlock, Exit.then])
        refine bodyPost_ret (results_none rfl _ _ _) rfl ?_
        exact ⟨rfl, HF.out⟩
    · have HF : Hid (AftS s rb i w X x) := Lib.hid (by
        rw [← HX.out, dr_ge (by omega), wordP]
        exact ⟨a', ha', rfl, HR.out, HG.out⟩)
      go_wp2_with fail
      go_end0
      exact ⟨rfl, HF.out⟩
end Fd
end Go.Proofs.YtbhcfmdogdaodaaGreatDoor
namespace Go.Proofs.YtbhcfmdogdaodaaGreatDoor
open Go.RowKit
namespace Fd
open _root_.Go.Proofs.YtbhcfmdogdaodaaGreatDoor.Nm
open _root_.Go.Proofs.YtbhcfmdogdaodaaGreatDoor.Nt (RH RH.cell RH.box RH.lt RH.new RH.ext RH.fre RH.set RH.other)
theorem pk_dig {s : ByteArray} {a : Nat} : (48 ≤ pk s a ∧ pk s a ≤ 57) ↔ ∃ h : a < s.size, digB s[a] = true := by
  constructor
  · rintro ⟨h1, h2⟩
    by_cases h : a < s.size
    · refine ⟨h, ?_⟩
      rw [pk_lt h] at h1 h2
      unfold digB
      exact decide_eq_true (by omega)
    · rw [pk_ge (by omega)] at h1; omega
  · rintro ⟨h, hd⟩
    rw [pk_lt h]
    have := of_decide_eq_true hd
    omega
theorem digP_end {most n k : Nat} {s : ByteArray} {a : Nat} (h : ¬ (48 ≤ pk s a ∧ pk s a ≤ 57)) : digP most n k (dr s a) = if k = 0 then .bad (dr s a) 10 else .ok (n, k) (dr s a) := by
  by_cases hlt : a < s.size
  · rw [dr_lt hlt, digP, if_neg (fun e => h (pk_dig.2 ⟨hlt, e⟩))]
  · rw [dr_ge (by omega), digP]
theorem digP_more {most n k : Nat} {s : ByteArray} {a d : Nat} (h1 : pk s a = 48 + (d : Int)) (h2 : d ≤ 9) : a < s.size ∧ digP most n k (dr s a) = if k = most then .bad (dr s a) 10 else digP most (n * 10 + d) (k + 1) (dr s (a + 1)) := by
  obtain ⟨hlt, hd⟩ := pk_dig.1 ⟨show (48 : Int) ≤ pk s a by omega, show pk s a ≤ 57 by omega⟩
  refine ⟨hlt, ?_⟩
  have e : digv s[a] = d := by
    rw [pk_lt hlt] at h1
    unfold digv; omega
  rw [dr_lt hlt, digP, if_pos hd, e]
theorem wr64 {n : Int} (h : -9223372036854775808 ≤ n ∧ n ≤ 9223372036854775807) : wrap64 n = n := by unfold wrap64; omega
/-- what digitsOf answers -/
def DigPost (most : Nat) (s : ByteArray) (rb : Nat) (i : Int) (w : World) (x : Res (Nat × Nat)) (e : Ending) (w' : World) : Prop := ∃ n k : Nat, n < 10 ^ k ∧ k ≤ most ∧ e = .returned (.tuple #[.int .i64 (n : Int), .int .i64 (k : Int)]) ∧ (∀ v r, x = .ok v r → v = (n, k)) ∧ AftS s rb i w w' x
theorem peek_q (rb : Nat) (s : ByteArray) (a : Nat) (e0 i : Int) (w : World) (h : RD w rb s a e0 i) (hs : s.size ≤ 1000000) : Calls Tryz.prog 17 #[.pointer (some ⟨rb, 0, none⟩)] w fun e w' => e = .returned (.int .u8 (pk s a)) ∧ RD w' rb s a e0 i ∧ w.grownBy w' (some rb) ∧ w.heap.size ≤ w'.heap.size := (peek_at rb s a e0 i w h hs).mono (fun _ _ h9 => ⟨h9.1, h.ext h9.2, gr_below h9.2 _, h9.2.size⟩)
set_option maxRecDepth 100000 in
set_option maxHeartbeats 8000000 in
theorem digits_at (rb : Nat) (s : ByteArray) (a most : Nat) (i : Int) (w : World) (h : RD w rb s a 0 i) (hs : s.size ≤ 1000000) (ha : a ≤ s.size) (hm : most ≤ 12) : Calls Tryz.prog 41 #[.pointer (some ⟨rb, 0, none⟩), .int .i64 (most : Int)] w (DigPost most s rb i w (digP most 0 0 (dr s a))) := by
  have hs1 : (s.size : Int) ≤ 1000000 := by omega
  have hm1 : (most : Int) ≤ 12 := by omega
  have HR0 := Lib.hid h
  have HG0 := Lib.hid (gr_refl w (some rb))
  obtain ⟨x, hx⟩ : ∃ x, digP most 0 0 (dr s a) = x := ⟨_, rfl⟩
  have HX0 := Lib.hid hx
  rw [hx]
  clear h hx
  go_enter Tryz.func41, Tryz.ntmps41
  go_wp2_with fail
  go_loopw [4, 5] (fun p1 p2 wr => ∃ n k a' : Nat, Hid (n < 10 ^ k) ∧ k ≤ most ∧ a' ≤ s.size ∧ p1 = .int .i64 (n : Int) ∧ p2 = .int .i64 (k : Int) ∧ Hid (digP most n k (dr s a') = x) ∧ Hid (RD wr rb s a' 0 i) ∧ Hid (w.grownBy wr (some rb))) (fun _ p2 _ => most - (intOf p2).toNat)
  case atStart => exact ⟨0, 0, a, Lib.hid (by decide), Nat.zero_le _, ha, rfl, rfl, HX0, HR0, HG0⟩
  case round =>
    clear HX0 HR0 HG0 ha
    obtain ⟨n, k, a', HN, hk, ha', rfl, rfl, HX, HR, HG⟩ := hrel
    generalize hXX : wr = X at *
    clear hXX
    go_wp2_with fail
    refine (peek_q rb s a' 0 i X HR.out hs).mono ?_
    rintro e w2 ⟨rfl, hR2, hg2, -⟩
    have HR2 := Lib.hid hR2
    have HG2 := Lib.hid (HG.out.trans hg2)
    clear hR2 hg2
    by_cases hd : 48 ≤ pk s a' ∧ pk s a' ≤ 57
    · obtain ⟨h1, h2⟩ := hd
      go_wp2_with fail
      refine (peek_q rb s a' 0 i w2 HR2.out hs).mono ?_
      rintro e w3 ⟨rfl, hR3, hg3, -⟩
      have HR3 := Lib.hid hR3
      have HG3 := Lib.hid (HG2.out.trans hg3)
      clear hR3 hg3
      obtain ⟨d, hd⟩ : ∃ d : Nat, pk s a' = 48 + (d : Int) := ⟨(pk s a' - 48).toNat, by omega⟩
      have HD := Lib.hid hd
      have hd9 : d ≤ 9 := by omega
      have HM := Lib.hid (digP_more (most := most) (n := n) (k := k) hd hd9)
      clear hd
      by_cases hkm : k = most
      · have hkb : ((k : Int) == (most : Int)) = true := by simp [hkm]
        have HX2 : Hid (x = .bad (dr s a') 10) := Lib.hid (by rw [← HX.out, HM.out.2, if_pos hkm])
        have HKM := Lib.hid hkm
        clear hkm
        obtain ⟨c0, c1, c2, c3⟩ := HR3.out.c
        go_wp2_with fail
        refine (fail_ok rb s a' a' 10 i w3 HR3.out hs ha' rfl).mono ?_
        rintro e w4 ⟨rfl, hR4, hg4⟩
        have HF : Hid (DigPost most s rb i w x (.returned (.tuple #[.int .i64 (n : Int), .int .i64 (k : Int)])) w4) := Lib.hid ⟨n, k, HN.out, by omega, rfl, (fun v r e => by rw [HX2.out] at e; cases e), by rw [HX2.out]; exact BadS.at hR4 ha' (HG3.out.trans hg4)⟩
        clear hR4 hg4 c0 c1 c2 c3
        go_wp2_with fail
        (try simp only [Exit.inBlock, Exit.then])
        go_ret2
        exact HF.out
      · have hkb : ((k : Int) == (most : Int)) = false := by simpa using (fun e => hkm (by omega))
        have HX2 : Hid (digP most (n * 10 + d) (k + 1) (dr s (a' + 1)) = x) := Lib.hid (by rw [← HX.out, HM.out.2, if_neg hkm])
        go_wp2_with fail
        refine (peek_q rb s a' 0 i w3 HR3.out hs).mono ?_
        rintro e w4 ⟨rfl, hR4, hg4, -⟩
        have HR4 := Lib.hid hR4
        have HG4 := Lib.hid (HG3.out.trans hg4)
        obtain ⟨c0, c1, c2, c3⟩ := hR4.c
        have z1 := hR4.z 1
        clear hR4 hg4
        have HN2 : Hid (n * 10 + d < 10 ^ (k + 1)) := Lib.hid (by have := HN.out; rw [Nat.pow_succ]; omega)
        have HB : Hid (n < 1000000000000) := Lib.hid (Nat.lt_of_lt_of_le HN.out (Nat.le_trans (Nat.pow_le_pow_right (by decide) (show k ≤ 12 by omega)) (by decide)))
        have HW : Hid (wrap64 (wrap64 ((n : Int) * 10) + (pk s a' - 48)) = ((n * 10 + d : Nat) : Int)) := Lib.hid (by
          have h9 := HB.out
          rw [HD.out, show wrap64 ((n : Int) * 10) = (n : Int) * 10 from wr64 (by omega), wr64 (by omega)]
          omega)
        have HR5 : Hid (RD (w4.setCell ⟨rb, 1, none⟩ (.int .i64 ((a' : Int) + 1))) rb s (a' + 1) 0 i) := Lib.hid (HR4.out.next (a' + 1))
        have HG5 := Lib.hid (HG4.out.trans (gr_set w4 rb 1 (.int .i64 ((a' : Int) + 1))))
        go_wp2_with fail
        go_roundw
        case rel => exact ⟨n * 10 + d, k + 1, a' + 1, HN2, by omega, by have := HM.out.1; omega, by rw [HW.out], by go_num, HX2, HR5, HG5⟩
        case measure => simp [intOf]; omega
    · have HDG := Lib.hid (digP_end (most := most) (n := n) (k := k) hd)
      have HND := Lib.hid hd
      by_cases h1 : 48 ≤ pk s a'
      · have h2 : ¬ pk s a' ≤ 57 := fun e => hd ⟨h1, e⟩
        clear hd
        go_wp2_with fail
        refine (peek_q rb s a' 0 i w2 HR2.out hs).mono ?_
        rintro e w3 ⟨rfl, hR3, hg3, -⟩
        have HR3 := Lib.hid hR3
        have HG3 := Lib.hid (HG2.out.trans hg3)
        clear hR3 hg3
        by_cases hk0 : k = 0
        · have hkb : ((k : Int) == 0) = true := by simp [hk0]
          have HX2 : Hid (x = .bad (dr s a') 10) := Lib.hid (by rw [← HX.out, HDG.out, if_pos hk0])
          clear hk0
          obtain ⟨c0, c1, c2, c3⟩ := HR3.out.c
          go_wp2_with fail
          refine (fail_ok rb s a' a' 10 i w3 HR3.out hs ha' rfl).mono ?_
          rintro e w4 ⟨rfl, hR4, hg4⟩
          have HF : Hid (DigPost most s rb i w x (.returned (.tuple #[.int .i64 (n : Int), .int .i64 (k : Int)])) w4) := Lib.hid ⟨n, k, HN.out, by omega, rfl, (fun v r e => by rw [HX2.out] at e; cases e), by rw [HX2.out]; exact BadS.at hR4 ha' (HG3.out.trans hg4)⟩
          clear hR4 hg4 c0 c1 c2 c3
          go_wp2_with fail
          (try simp only [Exit.inBlock, Exit.then])
          go_ret2
          exact HF.out
        · have hkb : ((k : Int) == 0) = false := by simpa using hk0
          have HF : Hid (DigPost most s rb i w x (.returned (.tuple #[.int .i64 (n : Int), .int .i64 (k : Int)])) w3) := Lib.hid ⟨n, k, HN.out, by omega, rfl, (fun v r e => by rw [← HX.out, HDG.out, if_neg hk0] at e; cases e; rfl), by rw [← HX.out, HDG.out, if_neg hk0]; exact ⟨a', ha', rfl, HR3.out, HG3.out⟩⟩
          go_wp2_with fail
          (try simp only [Exit.inBlock, Exit.then])
          go_ret2
          exact HF.out
      · clear hd
        have HR3 := HR2
        have HG3 := HG2
        by_cases hk0 : k = 0
        · have hkb : ((k : Int) == 0) = true := by simp [hk0]
          have HX2 : Hid (x = .bad (dr s a') 10) := Lib.hid (by rw [← HX.out, HDG.out, if_pos hk0])
          clear hk0
          obtain ⟨c0, c1, c2, c3⟩ := HR3.out.c
          go_wp2_with fail
          refine (fail_ok rb s a' a' 10 i w2 HR3.out hs ha' rfl).mono ?_
          rintro e w4 ⟨rfl, hR4, hg4⟩
          have HF : Hid (DigPost most s rb i w x (.returned (.tuple #[.int .i64 (n : Int), .int .i64 (k : Int)])) w4) := Lib.hid ⟨n, k, HN.out, by omega, rfl, (fun v r e => by rw [HX2.out] at e; cases e), by rw [HX2.out]; exact BadS.at hR4 ha' (HG3.out.trans hg4)⟩
          clear hR4 hg4 c0 c1 c2 c3
          go_wp2_with fail
          (try simp only [Exit.inBlock, Exit.then])
          go_ret2
          exact HF.out
        · have hkb : ((k : Int) == 0) = false := by simpa using hk0
          have HF : Hid (DigPost most s rb i w x (.returned (.tuple #[.int .i64 (n : Int), .int .i64 (k : Int)])) w2) := Lib.hid ⟨n, k, HN.out, by omega, rfl, (fun v r e => by rw [← HX.out, HDG.out, if_neg hk0] at e; cases e; rfl), by rw [← HX.out, HDG.out, if_neg hk0]; exact ⟨a', ha', rfl, HR3.out, HG3.out⟩⟩
          go_wp2_with fail
          (try simp only [Exit.inBlock, Exit.then])
          go_ret2
          exact HF.out
end Fd
end Go.Proofs.YtbhcfmdogdaodaaGreatDoor
namespace Go.Proofs.YtbhcfmdogdaodaaGreatDoor
open Go.RowKit
namespace Fd
open _root_.Go.Proofs.YtbhcfmdogdaodaaGreatDoor.Rw (All2 All2.get All2.length wpList_load_agg)
theorem lt_mono {l : List F} (hs : Srt l) {nm : ByteArray} {a b : Nat} {f g : F} (hab : a ≤ b) (hf : l[a]? = some f) (hg : l[b]? = some g) (h : cmpS (nmF g) nm < 0) : cmpS (nmF f) nm < 0 := by
  rcases Nat.eq_or_lt_of_le hab with e | e
  · subst e; rw [hf] at hg; cases hg; exact h
  · obtain ⟨ha, rfl⟩ := List.getElem?_eq_some_iff.1 hf
    obtain ⟨hb, rfl⟩ := List.getElem?_eq_some_iff.1 hg
    exact lt_trans (List.pairwise_iff_getElem.1 hs a b ha hb e) h
end Fd
end Go.Proofs.YtbhcfmdogdaodaaGreatDoor
