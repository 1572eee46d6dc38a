/- The reference's reader in memory; next, fail and isDigit. Printed by gen_rja.py. Blanks and must of the reference's reader; what a step leaves. Printed by gen_rja.py. must, word and more of the reference's reader; what a step leaves. Printed by gen_rja.py. -/
import Derived.Test.YtbhcfmdogdaodaaGreatDoorRz07
namespace Go.Proofs.YtbhcfmdogdaodaaGreatDoor
open Go.RowKit
namespace Fd
open _root_.Go.Proofs.YtbhcfmdogdaodaaGreatDoor.Nm
open _root_.Go.Proofs.YtbhcfmdogdaodaaGreatDoor.Nt (RH RH.cell RH.box RH.lt RH.new RH.ext RH.fre RH.set RH.other)
/-- a reader of the reference: the text, the place, where the error is (-1: there is none), the error -/
def RJ (w : World) (rb : Nat) (s : ByteArray) (at_ : Nat) (b f : Int) : Prop := RH w rb #[.string s, .int .i64 (at_ : Int), .int .i64 b, .int .i64 f] 40
/-- the byte that comes next -/
def nx (s : ByteArray) (k : Nat) (b : Int) : Int := if 0 ≤ b then 0 else pk s k
theorem nx_ok (s : ByteArray) (k : Nat) : nx s k (-1) = pk s k := if_neg (by decide)
theorem nx_bad (s : ByteArray) (k : Nat) {b : Int} (h : 0 ≤ b) : nx s k b = 0 := if_pos h
section
variable {w w' : World} {rb at_ : Nat} {s : ByteArray} {b f : Int}
theorem RJ.c (h : RJ w rb s at_ b f) : w.cell? ⟨rb, 0, none⟩ = some (.string s) ∧ w.cell? ⟨rb, 1, none⟩ = some (.int .i64 (at_ : Int)) ∧ w.cell? ⟨rb, 2, none⟩ = some (.int .i64 b) ∧ w.cell? ⟨rb, 3, none⟩ = some (.int .i64 f) := ⟨h.cell 0, h.cell 1, h.cell 2, h.cell 3⟩
theorem RJ.z (h : RJ w rb s at_ b f) (j : Nat) : w.frozen? ⟨rb, j, none⟩ = false := h.fre j
theorem RJ.ext (h : RJ w rb s at_ b f) (hb : Below w.heap.size w w') : RJ w' rb s at_ b f := RH.ext h hb
theorem RJ.grown (h : RJ w rb s at_ b f) {r : Option Nat} (hg : w.grownBy w' r) (hr : some rb ≠ r) : RJ w' rb s at_ b f := Rw.rh_grown h hg hr
theorem RJ.next (h : RJ w rb s at_ b f) (k : Nat) : RJ (w.setCell ⟨rb, 1, none⟩ (.int .i64 (k : Int))) rb s k b f := RH.set h 1 _
theorem RJ.err (h : RJ w rb s at_ b f) (p er : Int) : RJ ((w.setCell ⟨rb, 2, none⟩ (.int .i64 p)).setCell ⟨rb, 3, none⟩ (.int .i64 er)) rb s at_ p er := RH.set (RH.set h 2 _) 3 _
end
set_option maxRecDepth 100000 in
set_option maxHeartbeats 8000000 in
theorem jnext_at (rb : Nat) (s : ByteArray) (a : Nat) (b f : Int) (w : World) (h : RJ w rb s a b f) (hs : s.size ≤ 1000000) : Calls Tryz.prog 24 #[.pointer (some ⟨rb, 0, none⟩)] w fun e w' => e = .returned (.int .u8 (nx s a b)) ∧ RJ w' rb s a b f ∧ w.grownBy w' (some rb) ∧ Below w.heap.size w w' := by
  have HR := Lib.hid h
  obtain ⟨c0, c1, c2, c3⟩ := h.c
  clear h
  have hs1 : (s.size : Int) ≤ 1000000 := by omega
  have h0 : (0 : Int) ≤ (a : Int) := Int.natCast_nonneg _
  go_enter Tryz.func24, Tryz.ntmps24
  by_cases hb : 0 ≤ b
  · have hbd : decide (0 ≤ b) = true := decide_eq_true hb
    have HP := Lib.hid (nx_bad s a hb)
    go_upto_region 1 with (fail)
    go_quiet (fail)
    have HB := Lib.hid (below_drewN (Below.refl w.heap.size w) nq)
    go_wp2
    go_ret
    exact ⟨by rw [HP.out]; rfl, HR.out.ext HB.out, gr_below HB.out _, HB.out⟩
  · have hbd : decide (0 ≤ b) = false := decide_eq_false hb
    have HQ : Hid (nx s a b = pk s a) := Lib.hid (if_neg hb)
    by_cases hlt : a < s.size
    · have hli : (a : Int) < (s.size : Int) := by omega
      have hld : decide ((s.size : Int) ≤ (a : Int)) = false := decide_eq_false (by omega)
      have HP := Lib.hid (pk_lt hlt)
      go_upto_region 1 with (fail)
      go_quiet (fail)
      have HK : Hid (∀ n, Below w.heap.size w (w.drewN n)) := Lib.hid (fun n => below_drewN (Below.refl w.heap.size w) n)
      go_upto_region 3 with (fail)
      go_quiet (fail)
      go_wp2
      go_ret
      exact ⟨by rw [HQ.out, HP.out]; rfl, HR.out.ext (HK.out _), gr_below (HK.out _) _, HK.out _⟩
    · have hli : ¬ (a : Int) < (s.size : Int) := by omega
      have hld : decide ((s.size : Int) ≤ (a : Int)) = true := decide_eq_true (by omega)
      have HP := Lib.hid (pk_ge (s := s) (k := a) (by omega))
      go_upto_region 1 with (fail)
      go_quiet (fail)
      have HB := Lib.hid (below_drewN (Below.refl w.heap.size w) nq)
      go_wp2
      go_ret
      exact ⟨by rw [HQ.out, HP.out]; rfl, HR.out.ext HB.out, gr_below HB.out _, HB.out⟩
set_option maxRecDepth 100000 in
set_option maxHeartbeats 8000000 in
theorem jfail_ok (rb : Nat) (s : ByteArray) (a p : Nat) (er : Int) (w : World) (h : RJ w rb s a (-1) 0) : Calls Tryz.prog 13 #[.pointer (some ⟨rb, 0, none⟩), .int .i64 (p : Int), .int .i64 er] w fun e w' => e = .returned (.tuple #[]) ∧ RJ w' rb s a (p : Int) er ∧ w.grownBy w' (some rb) := by
  obtain ⟨c0, c1, c2, c3⟩ := h.c
  have z2 := h.z 2
  have z3 := h.z 3
  have HF : Hid (RJ ((w.setCell ⟨rb, 2, none⟩ (.int .i64 (p : Int))).setCell ⟨rb, 3, none⟩ (.int .i64 er)) rb s a (p : Int) er ∧ w.grownBy ((w.setCell ⟨rb, 2, none⟩ (.int .i64 (p : Int))).setCell ⟨rb, 3, none⟩ (.int .i64 er)) (some rb)) := Lib.hid ⟨h.err _ _, (gr_set _ _ _ _).trans (gr_set _ _ _ _)⟩
  clear h
  go_enter Tryz.func13, Tryz.ntmps13
  go_wp2
  go_end0
  exact ⟨rfl, HF.out⟩
set_option maxRecDepth 100000 in
set_option maxHeartbeats 8000000 in
theorem jfail_no (rb : Nat) (s : ByteArray) (a : Nat) (p er b f : Int) (w : World) (h : RJ w rb s a b f) (hb : 0 ≤ b) : Calls Tryz.prog 13 #[.pointer (some ⟨rb, 0, none⟩), .int .i64 p, .int .i64 er] w fun e w' => e = .returned (.tuple #[]) ∧ w' = w := by
  obtain ⟨c0, c1, c2, c3⟩ := h.c
  have hbd : decide (b < 0) = false := decide_eq_false (by omega)
  have hbn : ¬ b < 0 := by omega
  clear h hb
  go_enter Tryz.func13, Tryz.ntmps13
  go_wp2
  go_end0
  exact ⟨rfl, rfl⟩
set_option maxRecDepth 100000 in
set_option maxHeartbeats 8000000 in
theorem isDigit_at (p : Int) (w : World) : Calls Tryz.prog 29 #[.int .u8 p] w fun e w' => e = .returned (.bool (decide (48 ≤ p) && decide (p ≤ 57))) ∧ w' = w := by
  go_enter Tryz.func29, Tryz.ntmps29
  by_cases h1 : 48 ≤ p
  · by_cases h2 : p ≤ 57
    · have HD : Hid ((decide (48 ≤ p) && decide (p ≤ 57)) = true) := Lib.hid (by rw [decide_eq_true h1, decide_eq_true h2]; rfl)
      rw [HD.out]
      go_wp2
      go_ret
      exact ⟨rfl, rfl⟩
    · have HD : Hid ((decide (48 ≤ p) && decide (p ≤ 57)) = false) := Lib.hid (by rw [decide_eq_false h2]; exact Bool.and_false _)
      rw [HD.out]
      go_wp2
      go_ret
      exact ⟨rfl, rfl⟩
  · have HD : Hid ((decide (48 ≤ p) && decide (p ≤ 57)) = false) := Lib.hid (by rw [decide_eq_false h1]; rfl)
    rw [HD.out]
    go_wp2
    go_ret
    exact ⟨rfl, rfl⟩
end Fd
end Go.Proofs.YtbhcfmdogdaodaaGreatDoor
namespace Go.Proofs.YtbhcfmdogdaodaaGreatDoor
open Go.RowKit
namespace Fd
open _root_.Go.Proofs.YtbhcfmdogdaodaaGreatDoor.Nm
open _root_.Go.Proofs.YtbhcfmdogdaodaaGreatDoor.Nt (RH RH.cell RH.box RH.lt RH.new RH.ext RH.fre RH.set RH.other)
theorem jmeas {w : World} {rb k : Nat} {s : ByteArray} {b f : Int} (h : RJ w rb s k b f) : (intOf ((w.cell? ⟨rb, 1, none⟩).getD undef)).toNat = k := meas_x h.c.2.1
/-- is the byte a blank -/
theorem pk_blank {s : ByteArray} {k : Nat} (h : pk s k = 9 ∨ pk s k = 10 ∨ pk s k = 13 ∨ pk s k = 32) : ∃ h : k < s.size, blankB s[k] = true := by
  by_cases hlt : k < s.size
  · refine ⟨hlt, ?_⟩
    rw [pk_lt hlt] at h
    unfold blankB
    rcases h with h | h | h | h
    · rw [show s[k] = 9 from UInt8.toNat_inj.1 (by show _ = 9; omega)]; rfl
    · rw [show s[k] = 10 from UInt8.toNat_inj.1 (by show _ = 10; omega)]; rfl
    · rw [show s[k] = 13 from UInt8.toNat_inj.1 (by show _ = 13; omega)]; rfl
    · rw [show s[k] = 32 from UInt8.toNat_inj.1 (by show _ = 32; omega)]; rfl
  · rw [pk_ge (by omega)] at h; omega
theorem pk_noblank {s : ByteArray} {k : Nat} (h : ¬ (pk s k = 9 ∨ pk s k = 10 ∨ pk s k = 13 ∨ pk s k = 32)) : skipW (dr s k) = dr s k := by
  by_cases hlt : k < s.size
  · rw [pk_lt hlt] at h
    rw [dr_lt hlt, skipW, if_neg]
    unfold blankB
    intro e
    simp only [Bool.or_eq_true, beq_iff_eq] at e
    rcases e with ((e | e) | e) | e
    · exact h (.inl (by rw [e]; rfl))
    · exact h (.inr (.inl (by rw [e]; rfl)))
    · exact h (.inr (.inr (.inl (by rw [e]; rfl))))
    · exact h (.inr (.inr (.inr (by rw [e]; rfl))))
  · rw [dr_ge (by omega)]; rfl
set_option maxRecDepth 100000 in
set_option maxHeartbeats 8000000 in
theorem jblanks_at (rb : Nat) (s : ByteArray) (a : Nat) (w : World) (h : RJ w rb s a (-1) 0) (hs : s.size ≤ 1000000) (ha : a ≤ s.size) : Calls Tryz.prog 11 #[.pointer (some ⟨rb, 0, none⟩)] w fun e w' => e = .returned (.tuple #[]) ∧ ∃ a', a' ≤ s.size ∧ dr s a' = skipW (dr s a) ∧ RJ w' rb s a' (-1) 0 ∧ w.grownBy w' (some rb) := by
  have hs1 : (s.size : Int) ≤ 1000000 := by omega
  obtain ⟨l, hl⟩ : ∃ l, skipW (dr s a) = l := ⟨_, rfl⟩
  have HL0 := Lib.hid hl
  rw [hl]
  have HR := Lib.hid h
  clear h hl
  go_enter Tryz.func11, Tryz.ntmps11
  go_wp2_with fail
  refine (jnext_at rb s a (-1) 0 w HR.out hs).mono ?_
  rw [nx_ok]
  rintro e w1 ⟨rfl, hR, hg, -⟩
  have HR0 := Lib.hid hR
  have HG0 := Lib.hid hg
  clear hR hg HR
  go_wp2_with fail
  go_loopw [2] (fun p wr => ∃ k : Nat, k ≤ s.size ∧ p = .int .u8 (pk s k) ∧ Hid (skipW (dr s k) = l) ∧ Hid (RJ wr rb s k (-1) 0) ∧ Hid (w.grownBy wr (some rb))) (fun _ wr => s.size - (intOf ((wr.cell? ⟨rb, 1, none⟩).getD undef)).toNat)
  case atStart => exact ⟨a, ha, rfl, HL0, HR0, HG0⟩
  case round =>
    clear HL0 HR0 HG0 ha
    obtain ⟨k, hk, rfl, HL, HR, HG⟩ := hrel
    generalize hXX : wr = X at *
    clear hXX
    obtain ⟨c0, c1, c2, c3⟩ := HR.out.c
    have z1 := HR.out.z 1
    have h0 : (0 : Int) ≤ (k : Int) := Int.natCast_nonneg _
    obtain ⟨p, hp⟩ : ∃ p, pk s k = p := ⟨_, rfl⟩
    have HP := Lib.hid hp
    rw [hp]
    clear hp
    by_cases hbl : p = 9 ∨ p = 10 ∨ p = 13 ∨ p = 32
    · have HBL : Hid (∃ h : k < s.size, blankB s[k] = true) := Lib.hid (pk_blank (by rw [HP.out]; exact hbl))
      have hk2 : (k : Int) < (s.size : Int) := by obtain ⟨h9, _⟩ := HBL.out; omega
      have HN : Hid (skipW (dr s (k + 1)) = l) := Lib.hid (by
        obtain ⟨h9, hb⟩ := HBL.out
        rw [← HL.out, dr_lt h9, skipW, if_pos hb])
      have HR3 : Hid (RJ (X.setCell ⟨rb, 1, none⟩ (.int .i64 ((k : Int) + 1))) rb s (k + 1) (-1) 0) := Lib.hid (HR.out.next (k + 1))
      have HG3 := Lib.hid (HG.out.trans (gr_set X rb 1 (.int .i64 ((k : Int) + 1))))
      have HMX := Lib.hid (jmeas HR.out)
      clear HL
      rcases hbl with hpv | hpv | hpv | hpv
      · have e0 : (p == 9) = true := by rw [hpv]; rfl
        have hk1 : (k : Int) ≤ 1000000 := by omega
        clear hpv
        go_wp2_with fail
        clear c0 c1 c2 c3 z1
        generalize X.setCell ⟨rb, 1, none⟩ (.int .i64 ((k : Int) + 1)) = X2 at *
        refine (jnext_at rb s (k + 1) (-1) 0 X2 HR3.out hs).mono ?_
        rw [nx_ok]
        rintro e w2 ⟨rfl, hR, hg, -⟩
        have HR4 := Lib.hid hR
        have HG4 := Lib.hid (HG3.out.trans hg)
        clear hR hg
        go_wp2_with fail
        go_roundw
        case rel => exact ⟨k + 1, by omega, rfl, HN, HR4, HG4⟩
        case measure => rw [jmeas HR4.out, HMX.out]; omega
      · have e0 : (p == 9) = false := by rw [hpv]; rfl
        have e1 : (p == 10) = true := by rw [hpv]; rfl
        have hk1 : (k : Int) ≤ 1000000 := by omega
        clear hpv
        go_wp2_with fail
        clear c0 c1 c2 c3 z1
        generalize X.setCell ⟨rb, 1, none⟩ (.int .i64 ((k : Int) + 1)) = X2 at *
        refine (jnext_at rb s (k + 1) (-1) 0 X2 HR3.out hs).mono ?_
        rw [nx_ok]
        rintro e w2 ⟨rfl, hR, hg, -⟩
        have HR4 := Lib.hid hR
        have HG4 := Lib.hid (HG3.out.trans hg)
        clear hR hg
        go_wp2_with fail
        go_roundw
        case rel => exact ⟨k + 1, by omega, rfl, HN, HR4, HG4⟩
        case measure => rw [jmeas HR4.out, HMX.out]; omega
      · have e0 : (p == 9) = false := by rw [hpv]; rfl
        have e1 : (p == 10) = false := by rw [hpv]; rfl
        have e2 : (p == 13) = true := by rw [hpv]; rfl
        have hk1 : (k : Int) ≤ 1000000 := by omega
        clear hpv
        go_wp2_with fail
        clear c0 c1 c2 c3 z1
        generalize X.setCell ⟨rb, 1, none⟩ (.int .i64 ((k : Int) + 1)) = X2 at *
        refine (jnext_at rb s (k + 1) (-1) 0 X2 HR3.out hs).mono ?_
        rw [nx_ok]
        rintro e w2 ⟨rfl, hR, hg, -⟩
        have HR4 := Lib.hid hR
        have HG4 := Lib.hid (HG3.out.trans hg)
        clear hR hg
        go_wp2_with fail
        go_roundw
        case rel => exact ⟨k + 1, by omega, rfl, HN, HR4, HG4⟩
        case measure => rw [jmeas HR4.out, HMX.out]; omega
      · have e0 : (p == 9) = false := by rw [hpv]; rfl
        have e1 : (p == 10) = false := by rw [hpv]; rfl
        have e2 : (p == 13) = false := by rw [hpv]; rfl
        have e3 : (p == 32) = true := by rw [hpv]; rfl
        have hk1 : (k : Int) ≤ 1000000 := by omega
        clear hpv
        go_wp2_with fail
        clear c0 c1 c2 c3 z1
        generalize X.setCell ⟨rb, 1, none⟩ (.int .i64 ((k : Int) + 1)) = X2 at *
        refine (jnext_at rb s (k + 1) (-1) 0 X2 HR3.out hs).mono ?_
        rw [nx_ok]
        rintro e w2 ⟨rfl, hR, hg, -⟩
        have HR4 := Lib.hid hR
        have HG4 := Lib.hid (HG3.out.trans hg)
        clear hR hg
        go_wp2_with fail
        go_roundw
        case rel => exact ⟨k + 1, by omega, rfl, HN, HR4, HG4⟩
        case measure => rw [jmeas HR4.out, HMX.out]; omega
    · have e0 : (p == 9) = false := by simpa using fun e => hbl (.inl e)
      have e1 : (p == 10) = false := by simpa using fun e => hbl (.inr (.inl e))
      have e2 : (p == 13) = false := by simpa using fun e => hbl (.inr (.inr (.inl e)))
      have e3 : (p == 32) = false := by simpa using fun e => hbl (.inr (.inr (.inr e)))
      have HN : Hid (dr s k = l) := Lib.hid (by rw [← HL.out, pk_noblank (by rw [HP.out]; exact hbl)])
      clear HL hbl
      go_wp2
      go_end0
      exact ⟨rfl, k, hk, HN.out, HR.out, HG.out⟩
set_option maxRecDepth 100000 in
set_option maxHeartbeats 8000000 in
theorem jblanks_no (rb : Nat) (s : ByteArray) (a : Nat) (b f : Int) (w : World) (h : RJ w rb s a b f) (hs : s.size ≤ 1000000) (hb : 0 ≤ b) : Calls Tryz.prog 11 #[.pointer (some ⟨rb, 0, none⟩)] w fun e w' => e = .returned (.tuple #[]) ∧ RJ w' rb s a b f ∧ w.grownBy w' (some rb) := by
  have HR := Lib.hid h
  have HB := Lib.hid hb
  clear h hb
  go_enter Tryz.func11, Tryz.ntmps11
  go_wp2_with fail
  refine (jnext_at rb s a b f w HR.out hs).mono ?_
  rw [nx_bad s a HB.out]
  rintro e w1 ⟨rfl, hR, hg, -⟩
  have HR0 := Lib.hid hR
  have HG0 := Lib.hid hg
  clear hR hg HR
  go_wp2_with fail
  go_loopw [2] (fun p wr => p = .int .u8 0 ∧ Hid (RJ wr rb s a b f) ∧ Hid (w.grownBy wr (some rb))) (fun _ _ => 0)
  case atStart => exact ⟨rfl, HR0, HG0⟩
  case round =>
    clear HR0 HG0
    obtain ⟨rfl, HR, HG⟩ := hrel
    go_wp2
    go_end0
    exact ⟨rfl, HR.out, HG.out⟩
end Fd
end Go.Proofs.YtbhcfmdogdaodaaGreatDoor
namespace Go.Proofs.YtbhcfmdogdaodaaGreatDoor
open Go.RowKit
namespace Fd
open _root_.Go.Proofs.YtbhcfmdogdaodaaGreatDoor.Nm
open _root_.Go.Proofs.YtbhcfmdogdaodaaGreatDoor.Nt (RH RH.cell RH.box RH.lt RH.new RH.ext RH.fre RH.set RH.other)
/-- behind a step that went well: r is left -/
def OkJ (s : ByteArray) (rb : Nat) (w w' : World) (r : List UInt8) : Prop := ∃ a, a ≤ s.size ∧ dr s a = r ∧ RJ w' rb s a (-1) 0 ∧ w.grownBy w' (some rb)
/-- behind an error: q was left there -/
def BadJ (s : ByteArray) (rb : Nat) (w w' : World) (q : List UInt8) (er : Int) : Prop := ∃ a, a ≤ s.size ∧ RJ w' rb s a ((s.size - q.length : Nat) : Int) er ∧ w.grownBy w' (some rb)
def AftJ (s : ByteArray) (rb : Nat) (w w' : World) {α : Type} (x : Res α) : Prop := match x with
  | .ok _ r => OkJ s rb w w' r
  | .bad q er => BadJ s rb w w' q er
theorem BadJ.at {s : ByteArray} {rb a p : Nat} {er : Int} {w w' : World} (h : RJ w' rb s a (p : Int) er) (ha : a ≤ s.size) (hp : p ≤ s.size) (hg : w.grownBy w' (some rb)) : BadJ s rb w w' (dr s p) er := ⟨a, ha, by rw [sub_len hp]; exact h, hg⟩
theorem AftJ.gr {s : ByteArray} {rb : Nat} {w w' : World} {α : Type} {x : Res α} (h : AftJ s rb w w' x) : w.grownBy w' (some rb) := by
  cases x with
  | ok v r => obtain ⟨_, _, _, _, h4⟩ := h; exact h4
  | bad q er => obtain ⟨_, _, _, h4⟩ := h; exact h4
theorem AftJ.tr {s : ByteArray} {rb : Nat} {w w1 w' : World} {α : Type} {x : Res α} (h : AftJ s rb w1 w' x) (hg : w.grownBy w1 (some rb)) : AftJ s rb w w' x := by
  cases x with
  | ok v r =>
    obtain ⟨a, h1, h2, h3, h4⟩ := h
    exact ⟨a, h1, h2, h3, hg.trans h4⟩
  | bad q er =>
    obtain ⟨a, h1, h2, h3⟩ := h
    exact ⟨a, h1, h2, hg.trans h3⟩
theorem AftJ.ext {s : ByteArray} {rb : Nat} {w w' w2 : World} {α : Type} {x : Res α} (h : AftJ s rb w w' x) (hb : Below w'.heap.size w' w2) : AftJ s rb w w2 x := by
  cases x with
  | ok v r =>
    obtain ⟨a, h1, h2, h3, h4⟩ := h
    exact ⟨a, h1, h2, h3.ext hb, h4.trans (gr_below hb _)⟩
  | bad q er =>
    obtain ⟨a, h1, h2, h3⟩ := h
    exact ⟨a, h1, h2.ext hb, h3.trans (gr_below hb _)⟩
set_option maxRecDepth 100000 in
set_option maxHeartbeats 8000000 in
theorem must_ok (rb : Nat) (s : ByteArray) (a : Nat) (cc : Int) (w : World) (h : RJ w rb s a (-1) 0) (hs : s.size ≤ 1000000) (hlt : a < s.size) (hc : pk s a = cc) : Calls Tryz.prog 44 #[.pointer (some ⟨rb, 0, none⟩), .int .u8 cc] w fun e w' => e = .returned (.tuple #[]) ∧ RJ w' rb s (a + 1) (-1) 0 ∧ w.grownBy w' (some rb) := by
  have hs1 : (s.size : Int) ≤ 1000000 := by omega
  have hli : (a : Int) < (s.size : Int) := by omega
  have h0 : (0 : Int) ≤ (a : Int) := Int.natCast_nonneg _
  have hcb : (pk s a != cc) = false := by simpa using hc
  have HR := Lib.hid h
  clear h hc
  go_enter Tryz.func44, Tryz.ntmps44
  go_wp2_with fail
  refine (jnext_at rb s a (-1) 0 w HR.out hs).mono ?_
  rw [nx_ok]
  rintro e w1 ⟨rfl, hR, hg, -⟩
  have HR0 := Lib.hid hR
  have HG0 := Lib.hid hg
  clear hR hg HR
  obtain ⟨c0, c1, c2, c3⟩ := HR0.out.c
  have z1 := HR0.out.z 1
  have HR3 : Hid (RJ (w1.setCell ⟨rb, 1, none⟩ (.int .i64 ((a : Int) + 1))) rb s (a + 1) (-1) 0) := Lib.hid (HR0.out.next (a + 1))
  have HG3 := Lib.hid (HG0.out.trans (gr_set w1 rb 1 (.int .i64 ((a : Int) + 1))))
  go_wp2
  go_end0
  exact ⟨rfl, HR3.out, HG3.out⟩
set_option maxRecDepth 100000 in
set_option maxHeartbeats 8000000 in
theorem must_no (rb : Nat) (s : ByteArray) (a : Nat) (cc : Int) (w : World) (h : RJ w rb s a (-1) 0) (hs : s.size ≤ 1000000) (hc : pk s a ≠ cc) : Calls Tryz.prog 44 #[.pointer (some ⟨rb, 0, none⟩), .int .u8 cc] w fun e w' => e = .returned (.tuple #[]) ∧ RJ w' rb s a (a : Int) 10 ∧ w.grownBy w' (some rb) := by
  have hcb : (pk s a != cc) = true := bne_iff_ne.2 hc
  have HR := Lib.hid h
  clear h hc
  go_enter Tryz.func44, Tryz.ntmps44
  go_wp2_with fail
  refine (jnext_at rb s a (-1) 0 w HR.out hs).mono ?_
  rw [nx_ok]
  rintro e w1 ⟨rfl, hR, hg, -⟩
  have HR0 := Lib.hid hR
  have HG0 := Lib.hid hg
  clear hR hg HR
  obtain ⟨c0, c1, c2, c3⟩ := HR0.out.c
  go_wp2_with fail
  refine (jfail_ok rb s a a 10 w1 HR0.out).mono ?_
  rintro e w2 ⟨rfl, hR, hg⟩
  have HR3 := Lib.hid hR
  have HG3 := Lib.hid (HG0.out.trans hg)
  clear hR hg
  go_wp2
  (try simp only [Exit.inBlock, Exit.then])
  refine bodyPost_ret (results_none rfl _ _ _) rfl ?_
  exact ⟨rfl, HR3.out, HG3.out⟩
set_option maxRecDepth 100000 in
set_option maxHeartbeats 8000000 in
theorem must_err (rb : Nat) (s : ByteArray) (a : Nat) (b f cc : Int) (w : World) (h : RJ w rb s a b f) (hs : s.size ≤ 1000000) (hb : 0 ≤ b) (hc : cc ≠ 0) : Calls Tryz.prog 44 #[.pointer (some ⟨rb, 0, none⟩), .int .u8 cc] w fun e w' => e = .returned (.tuple #[]) ∧ RJ w' rb s a b f ∧ w.grownBy w' (some rb) := by
  have hcb : ((0 : Int) != cc) = true := bne_iff_ne.2 (fun e => hc e.symm)
  have HR := Lib.hid h
  have HB := Lib.hid hb
  clear h hc hb
  go_enter Tryz.func44, Tryz.ntmps44
  go_wp2_with fail
  refine (jnext_at rb s a b f w HR.out hs).mono ?_
  rw [nx_bad s a HB.out]
  rintro e w1 ⟨rfl, hR, hg, -⟩
  have HR0 := Lib.hid hR
  have HG0 := Lib.hid hg
  clear hR hg HR
  obtain ⟨c0, c1, c2, c3⟩ := HR0.out.c
  go_wp2_with fail
  refine (jfail_no rb s a _ 10 b f w1 HR0.out HB.out).mono ?_
  rintro e w2 ⟨rfl, rfl⟩
  go_wp2
  (try simp only [Exit.inBlock, Exit.then])
  refine bodyPost_ret (results_none rfl _ _ _) rfl ?_
  exact ⟨rfl, HR0.out, HG0.out⟩
end Fd
end Go.Proofs.YtbhcfmdogdaodaaGreatDoor
