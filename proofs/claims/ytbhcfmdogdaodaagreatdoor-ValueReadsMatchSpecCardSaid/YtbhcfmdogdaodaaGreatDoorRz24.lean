/- escaped of the reference's reader. Printed by gen_rjg.py. text of the reference's reader. Printed by gen_rjh.py. What Value of the reference's reader answers. Printed by gen_rjj.py. -/
import Derived.Test.YtbhcfmdogdaodaaGreatDoorRz23
import Derived.Test.YtbhcfmdogdaodaaGreatDoorRz12
import Derived.Test.YtbhcfmdogdaodaaGreatDoorRz13
import Derived.Test.YtbhcfmdogdaodaaGreatDoorRz16
namespace Go.Proofs.YtbhcfmdogdaodaaGreatDoor
open Go.RowKit
namespace Fd
open _root_.Go.Proofs.YtbhcfmdogdaodaaGreatDoor.Nm
open _root_.Go.Proofs.YtbhcfmdogdaodaaGreatDoor.Nt (RH RH.cell RH.box RH.lt RH.new RH.ext RH.fre RH.set RH.other)
/-- what escaped answers -/
def EscJ (s : ByteArray) (rb : Nat) (w : World) (x : Res UInt8) (e : Ending) (w' : World) : Prop := ∃ b : UInt8, e = .returned (.int .u8 (b.toNat : Int)) ∧ (∀ v r, x = .ok v r → v = b) ∧ AftJ s rb w w' x
theorem escP_none {s : ByteArray} {a : Nat} (h1 : pk s a ≠ 34) (h2 : pk s a ≠ 92) (h3 : pk s a ≠ 47) (h4 : pk s a ≠ 117) : escP (dr s a) = .bad (dr s a) 10 := by
  by_cases h : a < s.size
  · rw [escP_not h h1 h2 h3, if_neg h4]
  · rw [dr_ge (by omega)]; rfl
theorem hex_none {s : ByteArray} {b : Nat} (h : pk s b = 0 ∨ 127 < pk s b) : ∀ h : b < s.size, hexd s[b] = none := fun hb => by
  rw [pk_lt hb] at h
  cases hh : hexd s[b] with
  | none => rfl
  | some d =>
    obtain ⟨h1, h2, _⟩ := hexd_le hh
    omega
set_option maxRecDepth 100000 in
set_option maxHeartbeats 8000000 in
theorem jesc_at (rb : Nat) (s : ByteArray) (a : Nat) (w : World) (h : RJ w rb s a (-1) 0) (hs : s.size ≤ 1000000) (ha : a ≤ s.size) : Calls Tryz.prog 45 #[.pointer (some ⟨rb, 0, none⟩)] w (EscJ s rb w (escP (dr s a))) := by
  have hs1 : (s.size : Int) ≤ 1000000 := by omega
  have hai : (a : Int) ≤ 1000000 := by omega
  have ha0 : (0 : Int) ≤ (a : Int) := Int.natCast_nonneg _
  have HR := Lib.hid h
  have HA := Lib.hid ha
  obtain ⟨x, hx⟩ : ∃ x, escP (dr s a) = x := ⟨_, rfl⟩
  have HX := Lib.hid hx
  rw [hx]
  obtain ⟨c0, c1, c2, c3⟩ := h.c
  clear h hx ha
  go_enter Tryz.func45, Tryz.ntmps45
  go_wp2_with fail
  refine (jnext_at rb s a (-1) 0 w HR.out hs).mono ?_
  rw [nx_ok]
  rintro e w1 ⟨rfl, hR, hg, -⟩
  have HR1 := Lib.hid hR
  have HG1 := Lib.hid hg
  clear hR hg c0 c1 c2 c3 HR
  have hpb := pk_bd s a
  by_cases hc : pk s a = 34 ∨ pk s a = 92 ∨ pk s a = 47
  · have HLT : Hid (a < s.size) := Lib.hid (Classical.byContradiction fun hn => by rw [pk_ge (by omega)] at hc; omega)
    have HXO : Hid (x = .ok (s[a]'HLT.out) (dr s (a + 1))) := Lib.hid (by rw [← HX.out, escP_one HLT.out hc])
    have HB : Hid (pk s a = ((s[a]'HLT.out).toNat : Int)) := Lib.hid (pk_lt HLT.out)
    have hli : (a : Int) < (s.size : Int) := by have := HLT.out; omega
    obtain ⟨c0, c1, c2, c3⟩ := HR1.out.c
    have z1 := HR1.out.z 1
    have HF : Hid (EscJ s rb w x (.returned (.int .u8 (pk s a))) (w1.setCell ⟨rb, 1, none⟩ (.int .i64 ((a : Int) + 1)))) := Lib.hid ⟨s[a]'HLT.out, by rw [HB.out], (fun v r e => by rw [HXO.out] at e; cases e; rfl), by rw [HXO.out]; exact ⟨a + 1, HLT.out, rfl, HR1.out.next (a + 1), HG1.out.trans (gr_set w1 rb 1 (.int .i64 ((a : Int) + 1)))⟩⟩
    rcases hc with hc | hc | hc
    · have e1 : (pk s a == 34) = true := by rw [hc]; rfl
      clear hc
      go_wp2
      (try simp only [Exit.inBlock, Exit.then])
      go_ret
      exact HF.out
    · have e1 : (pk s a == 34) = false := by rw [hc]; rfl
      have e2 : (pk s a == 92) = true := by rw [hc]; rfl
      clear hc
      go_wp2
      (try simp only [Exit.inBlock, Exit.then])
      go_ret
      exact HF.out
    · have e1 : (pk s a == 34) = false := by rw [hc]; rfl
      have e2 : (pk s a == 92) = false := by rw [hc]; rfl
      have e3 : (pk s a == 47) = true := by rw [hc]; rfl
      clear hc
      go_wp2
      (try simp only [Exit.inBlock, Exit.then])
      go_ret
      exact HF.out
  · have hc1 : pk s a ≠ 34 := fun e => hc (.inl e)
    have hc2 : pk s a ≠ 92 := fun e => hc (.inr (.inl e))
    have hc3 : pk s a ≠ 47 := fun e => hc (.inr (.inr e))
    have e1 : (pk s a == 34) = false := beq_eq_false_iff_ne.2 hc1
    have e2 : (pk s a == 92) = false := beq_eq_false_iff_ne.2 hc2
    have e3 : (pk s a == 47) = false := beq_eq_false_iff_ne.2 hc3
    by_cases hu : pk s a = 117
    · have HLT : Hid (a < s.size) := Lib.hid (Classical.byContradiction fun hn => by rw [pk_ge (by omega)] at hu; omega)
      have HXH := Lib.hid (HX.out.symm.trans ((escP_not HLT.out hc1 hc2 hc3).trans (if_pos hu)))
      have e4 : (pk s a == 117) = true := by rw [hu]; rfl
      have hli : (a : Int) < (s.size : Int) := by have := HLT.out; omega
      obtain ⟨c0, c1, c2, c3⟩ := HR1.out.c
      have z1 := HR1.out.z 1
      have HR2 : Hid (RJ (w1.setCell ⟨rb, 1, none⟩ (.int .i64 ((a : Int) + 1))) rb s (a + 0 + 1) (-1) 0) := Lib.hid (HR1.out.next (a + 1))
      have HG2 := Lib.hid (HG1.out.trans (gr_set w1 rb 1 (.int .i64 ((a : Int) + 1))))
      obtain ⟨y, hy⟩ : ∃ y, hexP 4 0 (dr s (a + 1)) = y := ⟨_, rfl⟩
      rw [hy] at HXH
      have HY0 : Hid (hexP (4 - 0) 0 (dr s (a + 0 + 1)) = y) := Lib.hid hy
      have HPOW : Hid ((0 : Nat) < 16 ^ 0) := Lib.hid (by decide)
      clear hy hc hc1 hc2 hc3 hu
      go_wp2_with fail
      generalize w1.setCell ⟨rb, 1, none⟩ (.int .i64 ((a : Int) + 1)) = w2 at *
      clear c0 c1 c2 c3 z1 e1 e2 e3 e4 hpb
      go_loopw [5, 35] (fun p1 p2 wr => ∃ n k : Nat, k ≤ 4 ∧ Hid (n < 16 ^ k) ∧ a + k < s.size ∧ p1 = .int .i64 (n : Int) ∧ p2 = .int .i64 (k : Int) ∧ Hid (hexP (4 - k) n (dr s (a + k + 1)) = y) ∧ Hid (RJ wr rb s (a + k + 1) (-1) 0) ∧ Hid (w.grownBy wr (some rb))) (fun _ p2 _ => 4 - (intOf p2).toNat)
      case atStart => exact ⟨0, 0, by decide, HPOW, HLT.out, rfl, rfl, HY0, HR2, HG2⟩
      case round =>
        clear HY0 HPOW HR2 HG2 HR1 HG1
        obtain ⟨n, k, hk, HPW, hak, rfl, rfl, HY, HR, HG⟩ := hrel
        generalize hXX : wr = X at *
        clear hXX
        obtain ⟨b, hb⟩ : ∃ b, a + k + 1 = b := ⟨_, rfl⟩
        rw [hb] at HY HR
        have HAB := Lib.hid hb
        have HBS : Hid (b ≤ s.size) := Lib.hid (by omega)
        have hbi : (b : Int) ≤ 1000000 := by omega
        have hb0 : (0 : Int) ≤ (b : Int) := Int.natCast_nonneg _
        have hn0 : (0 : Int) ≤ (n : Int) := Int.natCast_nonneg _
        clear hb hak
        by_cases hk4 : k = 4
        · have hnb : (n : Int) ≤ 65535 := by
            have h1 := HPW.out
            rw [hk4] at h1
            have h3 : n < 65536 := h1
            omega
          have HY2 : Hid (y = .ok n (dr s b)) := Lib.hid (by rw [← HY.out, hk4]; rfl)
          subst hk4
          by_cases hn1 : (n : Int) < 32
          · have HXB : Hid (x = .bad (dr s a) 10) := Lib.hid (by
              rw [HXH.out, HY2.out]
              exact if_pos (by omega))
            go_wp2_with fail
            refine (jfail_ok rb s b a 10 X HR.out).mono ?_
            rintro e Wz ⟨rfl, hR, hg⟩
            have HU : Hid (((UInt8.ofNat n).toNat : Int) = (n : Int)) := Lib.hid (by rw [UInt8.toNat_ofNat']; omega)
            have HF : Hid (EscJ s rb w x (.returned (.int .u8 (n : Int))) Wz) := Lib.hid ⟨UInt8.ofNat n, by rw [HU.out], (fun v r e => by rw [HXB.out] at e; cases e), by rw [HXB.out]; exact BadJ.at hR HBS.out HA.out (HG.out.trans hg)⟩
            clear hR hg
            go_wp2_with fail
            (try simp only [Exit.inBlock, Exit.then])
            go_ret
            exact HF.out
          · by_cases hn2 : 126 < (n : Int)
            · have HXB : Hid (x = .bad (dr s a) 10) := Lib.hid (by
                rw [HXH.out, HY2.out]
                exact if_pos (by omega))
              go_wp2_with fail
              refine (jfail_ok rb s b a 10 X HR.out).mono ?_
              rintro e Wz ⟨rfl, hR, hg⟩
              have HU : Hid (((UInt8.ofNat n).toNat : Int) = ((n : Int) % 256)) := Lib.hid (by rw [UInt8.toNat_ofNat']; omega)
              have HF : Hid (EscJ s rb w x (.returned (.int .u8 ((n : Int) % 256))) Wz) := Lib.hid ⟨UInt8.ofNat n, by rw [HU.out], (fun v r e => by rw [HXB.out] at e; cases e), by rw [HXB.out]; exact BadJ.at hR HBS.out HA.out (HG.out.trans hg)⟩
              clear hR hg
              go_wp2_with fail
              (try simp only [Exit.inBlock, Exit.then])
              go_ret
              exact HF.out
            · have HXO : Hid (x = .ok (UInt8.ofNat n) (dr s b)) := Lib.hid (by
                rw [HXH.out, HY2.out]
                exact if_neg (by omega))
              have HF : Hid (EscJ s rb w x (.returned (.int .u8 (n : Int))) X) := Lib.hid ⟨UInt8.ofNat n, by rw [UInt8.toNat_ofNat', Nat.mod_eq_of_lt (by omega)], (fun v r e => by rw [HXO.out] at e; cases e; rfl), by rw [HXO.out]; exact ⟨b, HBS.out, rfl, HR.out, HG.out⟩⟩
              go_wp2_with fail
              (try simp only [Exit.inBlock, Exit.then])
              go_ret
              exact HF.out
        · have hkl : k < 4 := by omega
          have hkli : (k : Int) < 4 := by omega
          have hk0 : (0 : Int) ≤ (k : Int) := Int.natCast_nonneg _
          have hnb : (n : Int) ≤ 65535 := by
            have h1 := HPW.out
            have h2 : 16 ^ k ≤ 16 ^ 4 := Nat.pow_le_pow_right (by decide) hk
            have h3 : n < 65536 := Nat.lt_of_lt_of_le h1 h2
            omega
          go_wp2_with fail
          refine (jnext_at rb s b (-1) 0 X HR.out hs).mono ?_
          rw [nx_ok]
          rintro e X1 ⟨rfl, hR, hg, -⟩
          have HR2 := Lib.hid hR
          have HG2 := Lib.hid (HG.out.trans hg)
          clear hR hg HR HG
          by_cases hq0 : pk s b = 0
          · have HXB : Hid (x = .bad (dr s b) 10) := Lib.hid (by rw [HXH.out, ← HY.out, show 4 - k = (3 - k) + 1 by omega, hexP_no (hex_none (.inl hq0))])
            have e5 : (pk s b == 0) = true := by rw [hq0]; rfl
            clear hq0
            obtain ⟨c0, c1, c2, c3⟩ := HR2.out.c
            go_wp2_with fail
            refine (jfail_ok rb s b b 10 X1 HR2.out).mono ?_
            rintro e Wz ⟨rfl, hR, hg⟩
            have HF : Hid (EscJ s rb w x (.returned (.int .u8 0)) Wz) := Lib.hid ⟨0, rfl, (fun v r e => by rw [HXB.out] at e; cases e), by rw [HXB.out]; exact BadJ.at hR HBS.out HBS.out (HG2.out.trans hg)⟩
            clear hR hg c0 c1 c2 c3
            go_wp2_with fail
            (try simp only [Exit.inBlock, Exit.then])
            go_ret
            exact HF.out
          · have e5 : (pk s b == 0) = false := beq_eq_false_iff_ne.2 hq0
            by_cases hq1 : 127 < pk s b
            · have HXB : Hid (x = .bad (dr s b) 10) := Lib.hid (by rw [HXH.out, ← HY.out, show 4 - k = (3 - k) + 1 by omega, hexP_no (hex_none (.inr hq1))])
              clear hq0
              obtain ⟨c0, c1, c2, c3⟩ := HR2.out.c
              go_wp2_with fail
              refine (jfail_ok rb s b b 10 X1 HR2.out).mono ?_
              rintro e Wz ⟨rfl, hR, hg⟩
              have HF : Hid (EscJ s rb w x (.returned (.int .u8 0)) Wz) := Lib.hid ⟨0, rfl, (fun v r e => by rw [HXB.out] at e; cases e), by rw [HXB.out]; exact BadJ.at hR HBS.out HBS.out (HG2.out.trans hg)⟩
              clear hR hg c0 c1 c2 c3
              go_wp2_with fail
              (try simp only [Exit.inBlock, Exit.then])
              go_ret
              exact HF.out
            · have HBL : Hid (b < s.size) := Lib.hid (Classical.byContradiction fun hn => hq0 (pk_ge (by omega)))
              obtain ⟨c, hcc⟩ : ∃ c, s[b]'HBL.out = c := ⟨_, rfl⟩
              have HC := Lib.hid hcc
              have hpc : pk s b = (c.toNat : Int) := by rw [pk_lt HBL.out, hcc]
              have HQ : Hid (c.toNat ≤ 127) := Lib.hid (by omega)
              have HSX : Hid (∀ W9, Calls Tryz.prog 65 #[.int .u8 (c.toNat : Int)] W9 fun e w' => e = .returned (.int .i64 (sixN c)) ∧ Below W9.heap.size W9 w') := Lib.hid (fun W9 => sixteen_at c HQ.out W9)
              rw [hpc] at e5 hq1 ⊢
              clear hcc hpc hq0
              go_wp2_with fail
              refine (HSX.out X1).mono ?_
              cases hh : hexd c with
              | none =>
                have HXB : Hid (x = .bad (dr s b) 10) := Lib.hid (by rw [HXH.out, ← HY.out, show 4 - k = (3 - k) + 1 by omega, hexP_no (fun h => by rw [HC.out]; exact hh)])
                rw [sixN_none hh]
                rintro e X2 ⟨rfl, hb⟩
                have HR3 := Lib.hid (HR2.out.ext hb)
                have HG3 := Lib.hid (HG2.out.trans (gr_below hb _))
                clear hh hb HR2 HG2 HSX
                obtain ⟨c0, c1, c2, c3⟩ := HR3.out.c
                go_wp2_with fail
                refine (jfail_ok rb s b b 10 X2 HR3.out).mono ?_
                rintro e Wz ⟨rfl, hR, hg⟩
                have HF : Hid (EscJ s rb w x (.returned (.int .u8 0)) Wz) := Lib.hid ⟨0, rfl, (fun v r e => by rw [HXB.out] at e; cases e), by rw [HXB.out]; exact BadJ.at hR HBS.out HBS.out (HG3.out.trans hg)⟩
                clear hR hg c0 c1 c2 c3
                go_wp2_with fail
                (try simp only [Exit.inBlock, Exit.then])
                go_ret
                exact HF.out
              | some d =>
                have HNX : Hid (hexP (3 - k) (n * 16 + d) (dr s (b + 1)) = y) := Lib.hid (by rw [← HY.out, show 4 - k = (3 - k) + 1 by omega, hexP_ok HBL.out (by rw [HC.out]; exact hh)])
                have HD : Hid (d ≤ 15) := Lib.hid (hexd_le hh).2.2
                have hd1 : (d : Int) ≤ 15 := by have := HD.out; omega
                have hd0 : (0 : Int) ≤ (d : Int) := Int.natCast_nonneg _
                rw [sixN_some hh] at HSX ⊢
                rintro e X2 ⟨rfl, hb⟩
                have HR3 := Lib.hid (HR2.out.ext hb)
                have HG3 := Lib.hid (HG2.out.trans (gr_below hb _))
                clear hh hb HR2 HG2
                go_wp2_with fail
                refine (HSX.out X2).mono ?_
                rintro e X3 ⟨rfl, hb⟩
                have HR4 := Lib.hid (HR3.out.ext hb)
                have HG4 := Lib.hid (HG3.out.trans (gr_below hb _))
                clear hb HR3 HG3 HSX
                obtain ⟨c0, c1, c2, c3⟩ := HR4.out.c
                have z1 := HR4.out.z 1
                have HR5 : Hid (RJ (X3.setCell ⟨rb, 1, none⟩ (.int .i64 ((b : Int) + 1))) rb s (b + 1) (-1) 0) := Lib.hid (HR4.out.next (b + 1))
                have HG5 := Lib.hid (HG4.out.trans (gr_set X3 rb 1 (.int .i64 ((b : Int) + 1))))
                have HPN : Hid (n * 16 + d < 16 ^ (k + 1)) := Lib.hid (by have h1 := HPW.out; have h2 := HD.out; rw [Nat.pow_succ]; omega)
                go_wp2_with fail
                go_roundw
                case rel => exact ⟨n * 16 + d, k + 1, by omega, HPN, by have := HAB.out; have := HBL.out; omega, by go_num, by go_num, Lib.hid (by rw [show a + (k + 1) + 1 = b + 1 by have := HAB.out; omega, show 4 - (k + 1) = 3 - k by omega]; exact HNX.out), Lib.hid (by rw [show a + (k + 1) + 1 = b + 1 by have := HAB.out; omega]; exact HR5.out), HG5⟩
                case measure => simp [intOf]; omega
    · have e4 : (pk s a == 117) = false := beq_eq_false_iff_ne.2 hu
      have HXB : Hid (x = .bad (dr s a) 10) := Lib.hid (by rw [← HX.out, escP_none hc1 hc2 hc3 hu])
      clear hc hc1 hc2 hc3 hu
      go_wp2_with fail
      refine (jfail_ok rb s a a 10 w1 HR1.out).mono ?_
      rintro e w2 ⟨rfl, hR, hg⟩
      have HF : Hid (EscJ s rb w x (.returned (.int .u8 0)) w2) := Lib.hid ⟨0, rfl, (fun v r e => by rw [HXB.out] at e; cases e), by rw [HXB.out]; exact BadJ.at hR HA.out HA.out (HG1.out.trans hg)⟩
      clear hR hg
      go_wp2
      (try simp only [Exit.inBlock, Exit.then])
      go_ret
      exact HF.out
end Fd
end Go.Proofs.YtbhcfmdogdaodaaGreatDoor
namespace Go.Proofs.YtbhcfmdogdaodaaGreatDoor
open Go.RowKit
namespace Fd
open _root_.Go.Proofs.YtbhcfmdogdaodaaGreatDoor.Nm
open _root_.Go.Proofs.YtbhcfmdogdaodaaGreatDoor.Nt (RH RH.cell RH.box RH.lt RH.new RH.ext RH.fre RH.set RH.other)
open _root_.Go.Proofs.YtbhcfmdogdaodaaGreatDoor.Tx (stB)
/-- what text answers -/
def TxtJ (s : ByteArray) (rb : Nat) (w : World) (x : Res (List UInt8)) (e : Ending) (w' : World) : Prop := ∃ l : List UInt8, l.length ≤ s.size ∧ e = .returned (.string (stB l)) ∧ (∀ v r, x = .ok v r → v = l) ∧ AftJ s rb w w' x
theorem TxtJ.bad {s : ByteArray} {rb : Nat} {w w' : World} {x : Res (List UInt8)} {q : List UInt8} {er : Int} (hx : x = .bad q er) (h : BadJ s rb w w' q er) : TxtJ s rb w x (.returned (.string ⟨#[]⟩)) w' := by
  subst hx
  exact ⟨[], Nat.zero_le _, rfl, (fun v r e => by cases e), h⟩
def jMeas (w : World) (rb n : Nat) : Nat := if intOf ((w.cell? ⟨rb, 2, none⟩).getD undef) < 0 then 1 + (n - (intOf ((w.cell? ⟨rb, 1, none⟩).getD undef)).toNat) else 0
theorem jMeas_ok {w : World} {rb n k : Nat} {s : ByteArray} (h : RJ w rb s k (-1) 0) : jMeas w rb n = 1 + (n - k) := by
  unfold jMeas
  rw [jmeas h, h.c.2.2.1]; rfl
theorem jMeas_bad {w : World} {rb n k : Nat} {s : ByteArray} {b f : Int} (h : RJ w rb s k b f) (hb : 0 ≤ b) : jMeas w rb n = 0 := by
  unfold jMeas
  rw [h.c.2.2.1]
  exact if_neg (by show ¬ b < 0; omega)
/-- where the loop stands -/
def JGood (s : ByteArray) (rb : Nat) (w : World) (x : Res (List UInt8)) (v : Value) (W : World) : Prop := ∃ (acc : List UInt8) (b f : Nat), acc.length ≤ b ∧ b ≤ s.size ∧ s.size - b < f ∧ txtP f acc (dr s b) = x ∧ BR W w.heap.size v acc ∧ RJ W rb s b (-1) 0 ∧ w.grownBy W (some rb)
def JBad (s : ByteArray) (rb : Nat) (w : World) (x : Res (List UInt8)) (W : World) : Prop := ∃ q er, x = .bad q er ∧ BadJ s rb w W q er
theorem own_stepJ {w X X6 : World} {rb : Nat} {v : Value} {l : List UInt8} {c : UInt8} (hrb : rb < w.heap.size) (hr : BR X w.heap.size v l) (hg : w.grownBy X (some rb)) (h6 : (X.alloc (.cells #[.int .u8 (c.toNat : Int)] 5)).grownBy X6 v.ownBlock) :
    w.grownBy X6 (some rb) ∧ ∀ (s : ByteArray) (k : Nat) (b f : Int), RJ X rb s k b f → RJ X6 rb s k b f :=
  ⟨gr_own (hg.trans (gr_below (ext_alloc X _) (some rb))) h6 hr.ge, fun _ _ _ _ h => (h.ext (ext_alloc X _)).grown h6 (hr.ne hrb)⟩
set_option maxRecDepth 100000 in
set_option maxHeartbeats 8000000 in
theorem jtext_at (rb : Nat) (s : ByteArray) (a : Nat) (w : World) (h : RJ w rb s a (-1) 0) (hs : s.size ≤ 1000000) (ha : a ≤ s.size) : Calls Tryz.prog 26 #[.pointer (some ⟨rb, 0, none⟩)] w (TxtJ s rb w (textP (dr s a))) := by
  have hs1 : (s.size : Int) ≤ 1000000 := by omega
  have HR := Lib.hid h
  have HRB : Hid (rb < w.heap.size) := Lib.hid h.lt
  obtain ⟨x, hx⟩ : ∃ x, textP (dr s a) = x := ⟨_, rfl⟩
  have HX := Lib.hid hx
  have HA := Lib.hid ha
  rw [hx]
  clear h hx ha
  go_enter Tryz.func26, Tryz.ntmps26
  by_cases hc : pk s a = 34
  · have HS := Lib.hid (sign_yes (c := 34) (by decide) (show pk s a = ((34 : UInt8).toNat : Int) from hc))
    have HX2 : Hid (txtP ((dr s (a + 1)).length + 1) [] (dr s (a + 1)) = x) := Lib.hid (by rw [← HX.out]; unfold textP; rw [HS.out.2]; rfl)
    have HC := Lib.hid hc
    clear hc
    go_wp2_with fail
    refine (must_ok rb s a 34 w HR.out hs HS.out.1 HC.out).mono ?_
    rintro e W ⟨rfl, hR, hg⟩
    have HT0 : Hid (JGood s rb w x (.slice none 0 0) W) := Lib.hid ⟨[], a + 1, _, Nat.zero_le _, HS.out.1, by have := HS.out.1; rw [dr_len HS.out.1]; omega, HX2.out, BR.nil W _, hR, hg⟩
    clear hR hg HX2 HC
    go_wp2_with fail
    go_loopw [3] (fun v wr => Hid (JGood s rb w x v wr) ∨ Hid (JBad s rb w x wr)) (fun _ wr => jMeas wr rb s.size)
    case atStart => exact .inl HT0
    case round =>
      clear HT0
      rcases hrel with HT | HT
      · obtain ⟨acc, b, f, hab, hbs, hf, hx2, hrow, hR, hg⟩ := HT.out
        cases f with
        | zero => omega
        | succ f =>
        generalize hXX : wr = X at *
        clear hXX HT
        have HXT := Lib.hid hx2
        have HROW := Lib.hid hrow
        have HR1 := Lib.hid hR
        have HG1 := Lib.hid hg
        have HF := Lib.hid hf
        have HAB := Lib.hid hab
        have HBS := Lib.hid hbs
        have hbi : (b : Int) ≤ 1000000 := by omega
        have HM := Lib.hid (jMeas_ok (n := s.size) hR)
        clear hx2 hrow hR hg hf hab hbs
        obtain ⟨c0, c1, c2, c3⟩ := HR1.out.c
        go_wp2_with fail
        clear c0 c1 c2 c3
        refine (jnext_at rb s b (-1) 0 X HR1.out hs).mono ?_
        rw [nx_ok]
        rintro e X3 ⟨rfl, hR, hg, -⟩
        have HR3 := Lib.hid hR
        have HG3 := Lib.hid (HG1.out.trans hg)
        have HROW3 := Lib.hid (HROW.out.kept hg HRB.out)
        clear hR hg HR1 HG1 HROW
        obtain ⟨p, hp⟩ : ∃ p, pk s b = p := ⟨_, rfl⟩
        have HP := Lib.hid hp
        have hpb := pk_bd s b
        rw [hp] at hpb ⊢
        clear hp
        by_cases hp1 : p < 32
        · have HXB : Hid (x = .bad (dr s b) 10) := Lib.hid (by rw [← HXT.out, t_bad (.inr (.inl (by rw [HP.out]; exact hp1)))])
          obtain ⟨c0, c1, c2, c3⟩ := HR3.out.c
          go_wp2_with fail
          refine (jfail_ok rb s b b 10 X3 HR3.out).mono ?_
          rintro e Wz ⟨rfl, hR, hg⟩
          have HTB : Hid (JBad s rb w x Wz) := Lib.hid ⟨_, _, HXB.out, BadJ.at hR HBS.out HBS.out (HG3.out.trans hg)⟩
          have HM2 := Lib.hid (jMeas_bad (n := s.size) hR (Int.natCast_nonneg _))
          clear hR hg c0 c1 c2 c3
          go_wp2_with fail
          go_roundw
          case rel => exact .inr HTB
          case measure => rw [HM.out, HM2.out]; omega
        · by_cases hp2 : 126 < p
          · have HXB : Hid (x = .bad (dr s b) 10) := Lib.hid (by rw [← HXT.out, t_bad (.inr (.inr (by rw [HP.out]; exact hp2)))])
            obtain ⟨c0, c1, c2, c3⟩ := HR3.out.c
            go_wp2_with fail
            refine (jfail_ok rb s b b 10 X3 HR3.out).mono ?_
            rintro e Wz ⟨rfl, hR, hg⟩
            have HTB : Hid (JBad s rb w x Wz) := Lib.hid ⟨_, _, HXB.out, BadJ.at hR HBS.out HBS.out (HG3.out.trans hg)⟩
            have HM2 := Lib.hid (jMeas_bad (n := s.size) hR (Int.natCast_nonneg _))
            clear hR hg c0 c1 c2 c3
            go_wp2_with fail
            go_roundw
            case rel => exact .inr HTB
            case measure => rw [HM.out, HM2.out]; omega
          · have HLT : Hid (b < s.size) := Lib.hid (Classical.byContradiction fun hn => by have := HP.out; rw [pk_ge (by omega)] at this; omega)
            have hbs2 : (b : Int) < (s.size : Int) := by have := HLT.out; omega
            have hb0 : (0 : Int) ≤ (b : Int) := Int.natCast_nonneg _
            by_cases hq : p = 34
            · have hqb : (p == 34) = true := by simpa using hq
              have HXO : Hid (x = .ok acc (dr s (b + 1))) := Lib.hid (by rw [← HXT.out, t_quo HLT.out (HP.out.trans hq)])
              clear hq
              obtain ⟨c0, c1, c2, c3⟩ := HR3.out.c
              have z1 := HR3.out.z 1
              have HCV : Hid ((convert 55 9 u3).run Tryz.prog (X3.setCell ⟨rb, 1, none⟩ (.int .i64 ((b : Int) + 1))) = .ok (.string (stB acc)) (X3.setCell ⟨rb, 1, none⟩ (.int .i64 ((b : Int) + 1)))) := Lib.hid (HROW3.out.kept (gr_set X3 rb 1 (.int .i64 ((b : Int) + 1))) HRB.out).conv
              have hcv := HCV.out
              have HFI : Hid (TxtJ s rb w x (.returned (.string (stB acc))) (X3.setCell ⟨rb, 1, none⟩ (.int .i64 ((b : Int) + 1)))) := Lib.hid ⟨acc, by have := HAB.out; have := HBS.out; omega, rfl, (fun v r e => by rw [HXO.out] at e; cases e; rfl), by rw [HXO.out]; exact ⟨b + 1, HLT.out, rfl, HR3.out.next (b + 1), HG3.out.trans (gr_set X3 rb 1 (.int .i64 ((b : Int) + 1)))⟩⟩
              go_wp2_with fail
              (try simp only [Exit.inBlock, Exit.then])
              go_ret
              exact HFI.out
            · have hqb : (p == 34) = false := beq_eq_false_iff_ne.2 hq
              by_cases he : p = 92
              · have hee : (p == 92) = true := by simpa using he
                have HXE := Lib.hid (HXT.out.symm.trans (t_esc (f := f) (acc := acc) HLT.out (HP.out.trans he)))
                clear hq he
                obtain ⟨c0, c1, c2, c3⟩ := HR3.out.c
                have z1 := HR3.out.z 1
                have hg := gr_set X3 rb 1 (.int .i64 ((b : Int) + 1))
                have HR4 : Hid (RJ (X3.setCell ⟨rb, 1, none⟩ (.int .i64 ((b : Int) + 1))) rb s (b + 1) (-1) 0) := Lib.hid (HR3.out.next (b + 1))
                have HG4 := Lib.hid (HG3.out.trans hg)
                have HROW4 := Lib.hid (HROW3.out.kept hg HRB.out)
                clear hg
                go_wp2_with fail
                clear c0 c1 c2 c3 z1 HR3 HG3 HROW3
                generalize X3.setCell ⟨rb, 1, none⟩ (.int .i64 ((b : Int) + 1)) = X4 at *
                refine (jesc_at rb s (b + 1) X4 HR4.out hs HLT.out).mono ?_
                rintro e X5 ⟨ch, rfl, hch, hA⟩
                have HCH := Lib.hid hch
                have HAE := Lib.hid hA
                have hg := hA.gr
                have HG5 := Lib.hid (HG4.out.trans hg)
                have HROW5 := Lib.hid (HROW4.out.kept hg HRB.out)
                clear hch hA hg
                obtain ⟨y, hy⟩ : ∃ y, escP (dr s (b + 1)) = y := ⟨_, rfl⟩
                have HY := Lib.hid hy
                rw [hy] at HXE HCH HAE
                clear hy
                have HK : Hid (∀ v6 X6, BR X6 w.heap.size v6 (acc ++ [ch]) → (X5.alloc (.cells #[.int .u8 (ch.toNat : Int)] 5)).grownBy X6 u3.ownBlock → ((Hid (JGood s rb w x v6 X6) ∨ Hid (JBad s rb w x X6)) ∧ jMeas X6 rb s.size < jMeas X rb s.size)) := Lib.hid (fun v6 X6 hr hb => by
                  obtain ⟨hg6, h6⟩ := own_stepJ HRB.out HROW5.out HG5.out hb
                  have hA := HAE.out
                  have hXE := HXE.out
                  have hCH := HCH.out
                  have hY := HY.out
                  rw [HM.out]
                  cases y with
                  | ok v q =>
                    obtain ⟨a', ha', hq, hRa, _⟩ := hA
                    have hv := hCH v q rfl
                    subst hv
                    have hl := escP_len hY
                    rw [← hq, dr_len ha', dr_len (show b + 1 ≤ s.size from HLT.out)] at hl
                    refine ⟨.inl (Lib.hid ⟨acc ++ [v], a', f, ?_, ha', ?_, ?_, hr, h6 _ _ _ _ hRa, hg6⟩), ?_⟩
                    · rw [List.length_append, List.length_singleton]; have := HAB.out; omega
                    · have := HF.out; omega
                    · rw [hq]; exact hXE.symm
                    · rw [jMeas_ok (h6 _ _ _ _ hRa)]; omega
                  | bad q er =>
                    obtain ⟨a', ha', hRa, _⟩ := hA
                    refine ⟨.inr (Lib.hid ⟨q, er, hXE, a', ha', h6 _ _ _ _ hRa, hg6⟩), ?_⟩
                    rw [jMeas_bad (h6 _ _ _ _ hRa) (Int.natCast_nonneg _)]; omega)
                go_wp2_with (at_builtin; refine wpList_append_bt rfl _ _ rfl w.heap.size rfl HROW5.out ch rfl (by have := HAB.out; have := HBS.out; omega) HG5.out.size ?_; intro v6 X6 hr hb)
                obtain ⟨hrel, hme⟩ := HK.out v6 X6 hr hb
                go_roundw
                case rel => exact hrel
                case measure => exact hme
              · have hee : (p == 92) = false := beq_eq_false_iff_ne.2 he
                have HXC := Lib.hid (HXT.out.symm.trans (t_chr (f := f) (acc := acc) HLT.out (by rw [HP.out]; omega) (by rw [HP.out]; omega) (by rw [HP.out]; exact hq) (by rw [HP.out]; exact he)))
                obtain ⟨c, hcc⟩ : ∃ c, s[b]'HLT.out = c := ⟨_, rfl⟩
                have HPC : Hid (p = (c.toNat : Int)) := Lib.hid (by rw [← hcc, ← pk_lt HLT.out, HP.out])
                rw [hcc] at HXC
                clear hq he hcc
                go_upto_region 5 with (fail)
                rw [HPC.out]
                go_upto_region 6 with (at_builtin; refine wpList_append_bt rfl _ _ rfl w.heap.size rfl HROW3.out c rfl (by have := HAB.out; have := HBS.out; omega) HG3.out.size ?_; intro v5 X4 hr hb)
                obtain ⟨hg4, h4⟩ := own_stepJ HRB.out HROW3.out HG3.out hb
                have hR4 := h4 _ _ _ _ HR3.out
                have hg5 := gr_set X4 rb 1 (.int .i64 ((b : Int) + 1))
                have HTG : Hid (JGood s rb w x v5 (X4.setCell ⟨rb, 1, none⟩ (.int .i64 ((b : Int) + 1)))) := Lib.hid ⟨acc ++ [c], b + 1, f, by rw [List.length_append, List.length_singleton]; have := HAB.out; omega, HLT.out, by have := HF.out; omega, HXC.out.symm, hr.kept hg5 HRB.out, hR4.next (b + 1), hg4.trans hg5⟩
                have HM2 := Lib.hid (jMeas_ok (n := s.size) (hR4.next (b + 1)))
                obtain ⟨c0, c1, c2, c3⟩ := hR4.c
                have z1 := hR4.z 1
                clear hr hb hg4 h4 hR4 hg5
                go_wp2_with fail
                go_roundw
                case rel => exact .inl HTG
                case measure =>
                  rw [HM.out]
                  have h9 := HLT.out
                  have h8 := HM2.out
                  refine Nat.lt_of_le_of_lt (Nat.le_of_eq h8) ?_
                  omega
      · obtain ⟨q, er, hxb, hbad⟩ := HT.out
        have HFI : Hid (TxtJ s rb w x (.returned (.string ⟨#[]⟩)) wr) := Lib.hid (TxtJ.bad hxb hbad)
        obtain ⟨ab, hab, hRb, _⟩ := hbad
        obtain ⟨c0, c1, c2, c3⟩ := hRb.c
        clear hxb hab hRb HT
        go_wp2_with fail
        go_ret
        exact HFI.out
  · have HXB : Hid (x = .bad (dr s a) 10) := Lib.hid (by rw [← HX.out]; unfold textP; rw [sign_nay (c := 34) (by decide) (fun e => hc e)]; rfl)
    have HC := Lib.hid hc
    clear hc
    go_wp2_with fail
    refine (must_no rb s a 34 w HR.out hs HC.out).mono ?_
    rintro e w2 ⟨rfl, hR2, hg2⟩
    have HFI : Hid (JBad s rb w x w2) := Lib.hid ⟨_, _, HXB.out, BadJ.at hR2 HA.out HA.out hg2⟩
    clear hR2 hg2
    go_wp2_with fail
    go_loopw [3] (fun _ wr => Hid (JBad s rb w x wr)) (fun _ _ => 0)
    case atStart => exact HFI
    case round =>
      obtain ⟨q, er, hxb, hbad⟩ := hrel.out
      have HFI2 : Hid (TxtJ s rb w x (.returned (.string ⟨#[]⟩)) wr) := Lib.hid (TxtJ.bad hxb hbad)
      obtain ⟨ab, hab, hRb, _⟩ := hbad
      obtain ⟨c0, c1, c2, c3⟩ := hRb.c
      clear hxb hab hRb hrel
      go_wp2_with fail
      go_ret
      exact HFI2.out
end Fd
end Go.Proofs.YtbhcfmdogdaodaaGreatDoor
namespace Go.Proofs.YtbhcfmdogdaodaaGreatDoor
open Go.RowKit
namespace Fd
open _root_.Go.Proofs.YtbhcfmdogdaodaaGreatDoor.Nm
open _root_.Go.Proofs.YtbhcfmdogdaodaaGreatDoor.Nt (RH RH.cell RH.box RH.lt RH.new RH.ext RH.fre RH.set RH.other)
open _root_.Go.Proofs.YtbhcfmdogdaodaaGreatDoor.Nt (RH.row RH.row_other RH.set_other)
open _root_.Go.Proofs.YtbhcfmdogdaodaaGreatDoor.Rw (All2 All2.get All2.length All2.mono All2.append Fresh fresh_own Kept wp_stored)
open _root_.Go.Proofs.YtbhcfmdogdaodaaGreatDoor.Tx (stB)
/-- what Value answers: a value on new blocks -/
def ValJ (s : ByteArray) (rb : Nat) (w : World) (x : Res V) (e : Ending) (w' : World) : Prop := ∃ (v : V) (c : List Value), e = .returned (.agg c.toArray) ∧ On (fun q => w.heap.size ≤ q) (fun Z => RepV Z v c) w' ∧ (∀ u r, x = .ok u r → v = u) ∧ AftJ s rb w w' x
/-- Value, at all texts with fewer steps left -/
def ValJAt (s : ByteArray) (rb : Nat) (f : Nat) : Prop := ∀ (a : Nat) (w : World), RJ w rb s a (-1) 0 → a ≤ s.size → 2 * (s.size - a) + 1 ≤ f → Calls Tryz.prog 12 #[.pointer (some ⟨rb, 0, none⟩)] w (ValJ s rb w (valP f (dr s a)))
/-- behind the append and the store of it -/
theorem lj_rj {α : Type} {R : World → α → List Value → Prop} {e k : Nat} {A : Value → Array Value} {rb vb N : Nat} {w X Y : World} {l : List α} {v v' : Value} {E : List (List Value)} {j : Nat} (h : LJ R e k A rb w vb N X l v E)
    (hg : X.grownBy Y v.ownBlock) : ∀ (s : ByteArray) (at_ : Nat) (b f : Int), RJ X rb s at_ b f → RJ (Y.setCell ⟨vb, j, none⟩ v') rb s at_ b f := by
  have hlt := h.lt
  have hrb := h.lrb
  have hvn := h.vn
  intro s a b f hR
  exact RH.set_other (hR.grown hg (h.er.ne (by omega))) (by show rb ≠ vb; omega) _
/-- a temporary that holds a value just read -/
def TPvJ (D : Nat → Prop) (s : ByteArray) (rb : Nat) (w : World) (y : Res V) : TP where
  p W u := ∃ (v : V) (c : List Value), u = .agg c.toArray ∧ On D (fun Z => RepV Z v c) W ∧ (∀ t r, y = .ok t r → v = t) ∧ AftJ s rb w W y
  gr := by
    rintro W W' u hb ⟨v, c, h1, h2, h3, h4⟩
    exact ⟨v, c, h1, h2.below hb, h3, h4.ext hb⟩
theorem aft_likeJ {s : ByteArray} {rb : Nat} {w w' : World} {α β : Type} {y : Res α} {f : α → β} (h : AftJ s rb w w' y) : AftJ s rb w w' (y.bind fun v q => .ok (f v) q) := by
  cases y with
  | ok v r => exact h
  | bad q e => exact h
theorem skip_skip : ∀ l : List UInt8, skipW (skipW l) = skipW l
  | [] => rfl
  | c :: r => by
    by_cases h : blankB c = true
    · rw [skipW, if_pos h]; exact skip_skip r
    · rw [skipW, if_neg h, skipW, if_neg h]
end Fd
end Go.Proofs.YtbhcfmdogdaodaaGreatDoor
