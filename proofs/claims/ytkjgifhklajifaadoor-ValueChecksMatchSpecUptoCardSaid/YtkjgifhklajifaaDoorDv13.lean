/- Quote and numberText of the reference. Printed by gen_rsh.py. -/
import Derived.Test.YtkjgifhklajifaaDoorDv12
namespace Go.Proofs.YtkjgifhklajifaaDoor
open Go.RowKit
namespace Fd
open _root_.Go.Proofs.YtkjgifhklajifaaDoor.Nm
open _root_.Go.Proofs.YtkjgifhklajifaaDoor.Nt (RH RH.cell RH.box RH.lt RH.new RH.ext RH.fre RH.set RH.other)
open _root_.Go.Proofs.YtkjgifhklajifaaDoor.Rw (All2 All2.get All2.length wpList_load_agg wp_stored)
theorem quo_str (l : List UInt8) : (⟨#[34]⟩ : ByteArray) ++ Tx.stB (escL l) ++ (⟨#[34]⟩ : ByteArray) = Tx.stB (quoL l) := by
  rw [← Tx.stB_self ((⟨#[34]⟩ : ByteArray) ++ Tx.stB (escL l) ++ (⟨#[34]⟩ : ByteArray)), bs_app_list, bs_app_list, Tx.stB_list]
  rfl
theorem app_str (a b : List UInt8) : Tx.stB a ++ Tx.stB b = Tx.stB (a ++ b) := by
  rw [← Tx.stB_self (Tx.stB a ++ Tx.stB b), bs_app_list, Tx.stB_list, Tx.stB_list]
theorem bs_toList (s : ByteArray) : s.toList = s.data.toList := ByteArray.toList_eq s
theorem rep_at (s : ByteArray) (c d e : UInt8) (hd : [c] ≠ [d, e]) (hs : s.size ≤ 100000) (w : World) (hm : Tx.Ml w) : Calls Tryd.prog 81 #[.string s, .string ⟨#[c]⟩, .string ⟨#[d, e]⟩] w fun e' w' => e' = .returned (.string (Tx.stB (rep1 c [d, e] s.data.toList))) ∧ Below w.heap.size w w' := by
  obtain ⟨m, hm⟩ := hm
  have hc : Lib.countB s ⟨#[c]⟩ ≤ s.size := by
    have := Lib.countB_mul_le ⟨#[c]⟩ (Nat.le_refl 1) s.size s (Nat.le_refl _)
    have h1 : (⟨#[c]⟩ : ByteArray).size = 1 := rfl
    rw [h1, Nat.mul_one] at this
    exact this
  refine (Tryd.strings_ReplaceAll s ⟨#[c]⟩ ⟨#[d, e]⟩ m w (by omega) hm (Nat.le_refl 1) ?_).mono ?_
  · have : Lib.countB s ⟨#[c]⟩ * 2 ≤ s.size * 2 := Nat.mul_le_mul_right 2 hc
    show s.size + Lib.countB s ⟨#[c]⟩ * 2 ≤ _
    omega
  · rintro e' w' ⟨rfl, hb⟩
    refine ⟨?_, hb⟩
    rw [show (⟨#[c]⟩ : ByteArray).data.toList = [c] from rfl, show (⟨#[d, e]⟩ : ByteArray).data.toList = [d, e] from rfl, replaceAll_one hd]
    rfl
set_option maxRecDepth 100000 in
set_option maxHeartbeats 16000000 in
theorem rquote_at (s : ByteArray) (hs : s.size ≤ 500) (w : World) (hm : Tx.Ml w) : Calls Tryd.prog 46 #[.string s] w fun e w' => e = .returned (.string (Tx.stB (quoL s.data.toList))) ∧ Below w.heap.size w w' := by
  have HM := Lib.hid hm
  have HS := Lib.hid hs
  have hsl : s.data.toList.length = s.size := (Lib.size_eq s).symm
  have HR1 : Hid ((rep1 92 [92, 92] s.data.toList).length ≤ 1000) := Lib.hid (by have := rep1_len 92 (t := [92, 92]) rfl s.data.toList; omega)
  have HR2 : Hid ((escL s.data.toList).length ≤ 1000) := Lib.hid (by have := esc_len s.data.toList; omega)
  clear hm hs hsl
  go_enter Tryd.func46, Tryd.ntmps46
  go_wp2_with fail
  refine (rep_at s 92 92 92 (by decide) (by have := HS.out; omega) w HM.out).mono ?_
  rintro e w1 ⟨rfl, hb1⟩
  have HB1 := Lib.hid hb1
  clear hb1
  obtain ⟨u, hu⟩ : ∃ u, Tx.stB (rep1 92 [92, 92] s.data.toList) = u := ⟨_, rfl⟩
  have HU := Lib.hid hu
  rw [hu]
  clear hu
  go_wp2_with fail
  refine (rep_at u 34 92 34 (by decide) (by have := HR1.out; rw [← HU.out, Tx.stB_size]; omega) w1 (HM.out.ext HB1.out)).mono ?_
  rintro e w2 ⟨rfl, hb2⟩
  have HB2 := Lib.hid (ext_trans HB1.out hb2)
  obtain ⟨v, hv⟩ : ∃ v, Tx.stB (rep1 34 [92, 34] u.data.toList) = v := ⟨_, rfl⟩
  have HV : Hid (v = Tx.stB (escL s.data.toList)) := Lib.hid (by rw [← hv, ← HU.out, Tx.stB_list, rep_twice])
  have hvs : v.size ≤ 1000 := by rw [HV.out, Tx.stB_size]; exact HR2.out
  rw [hv]
  clear hv hb2
  go_wp2
  go_ret
  exact ⟨by rw [HV.out]; exact congrArg (fun b => Ending.returned (.string b)) (quo_str _), HB2.out⟩
set_option maxRecDepth 100000 in
set_option maxHeartbeats 16000000 in
theorem rnum_at (n : Int) (w : World) (hT : Tx.Tb w) (h1 : -1000000000000000 < n) (h2 : n < 1000000000000000) : Calls Tryd.prog 45 #[.int .i64 n] w fun e w' => e = .returned (.string (Tx.stB (numT n))) ∧ Below w.heap.size w w' := by
  have HT := Lib.hid hT
  clear hT
  go_enter Tryd.func45, Tryd.ntmps45
  by_cases hn : n < 0
  · obtain ⟨m, rfl⟩ : ∃ m : Nat, n = -(m : Int) := ⟨n.natAbs, by omega⟩
    have hm : (0 : Int) < (m : Int) := by omega
    have HNT : Hid (numT (-(m : Int)) = [45] ++ (decS (m / 1000) ++ fracT (m % 1000))) := Lib.hid (by
      unfold numT; rw [if_pos hn, Int.natAbs_neg, Int.natAbs_natCast])
    have hm2 : (m : Int) < 1000000000000000 := by omega
    clear hn h1 h2
    have HIT : Hid (∀ W, Below w.heap.size w W → Calls Tryd.prog 78 #[.int .i64 ((m : Int) / 1000)] W fun e w' => e = .returned (.string (Tx.stB (decS (m / 1000)))) ∧ Below W.heap.size W w') := Lib.hid (fun W hW => by
      have h9 := Tx.itoa_at (m / 1000) (by omega) W (HT.out.ext hW)
      rw [show ((m / 1000 : Nat) : Int) = (m : Int) / 1000 by omega] at h9
      exact h9)
    obtain ⟨r, hr⟩ : ∃ r : Nat, m % 1000 = r := ⟨_, rfl⟩
    have HR := Lib.hid hr
    have HRL : Hid (r < 1000) := Lib.hid (by omega)
    have HIT2 : Hid (∀ W, Below w.heap.size w W → Calls Tryd.prog 78 #[.int .i64 ((m : Int) % 1000)] W fun e w' => e = .returned (.string (Tx.stB (decS r))) ∧ Below W.heap.size W w') := Lib.hid (fun W hW => by
      have h9 := Tx.itoa_at r (by omega) W (HT.out.ext hW)
      rw [show (r : Int) = (m : Int) % 1000 by omega] at h9
      exact h9)
    have HDL : Hid ((decS (m / 1000)).length ≤ 20) := Lib.hid (Nat.le_trans (decS_length (k := 15) (by omega) (by omega)) (by omega))
    have HRD : Hid ((decS r).length ≤ 3) := Lib.hid (decS_length (k := 3) (by omega) (by omega))
    clear hr
    have hm9 : (m : Int) ≤ 9223372036854775807 := by omega
    clear hm2
    go_wp2_with fail
    refine (HIT.out _ (Below.refl _ _)).mono ?_
    rintro e w2 ⟨rfl, hb2⟩
    have HB2 := Lib.hid hb2
    clear hb2
    obtain ⟨u, hu⟩ : ∃ u, Tx.stB (decS (m / 1000)) = u := ⟨_, rfl⟩
    have hus : u.size ≤ 20 := by rw [← hu, Tx.stB_size]; exact HDL.out
    have HU := Lib.hid hu
    rw [hu]
    clear hu
    go_wp2_with fail
    refine (HIT2.out _ HB2.out).mono ?_
    rintro e w3 ⟨rfl, hb3⟩
    have HB3 := Lib.hid (ext_trans HB2.out hb3)
    clear hb3
    obtain ⟨v, hv⟩ : ∃ v, Tx.stB (decS r) = v := ⟨_, rfl⟩
    have hvs : v.size ≤ 3 := by rw [← hv, Tx.stB_size]; exact HRD.out
    have HVL : Hid (v.size = (decS r).length) := Lib.hid (by rw [← hv, Tx.stB_size])
    have HV := Lib.hid hv
    rw [hv]
    clear hv
    have HRP : Hid (∀ W, Calls Tryd.prog 80 #[.string ⟨#[48]⟩, .int .i64 (3 - (v.size : Int))] W fun e w' => e = .returned (.string (Tx.stB (Lib.repeatL [48] (3 - v.size)))) ∧ Below W.heap.size W w') := Lib.hid (fun W => by
      have h9 := Tryd.strings_Repeat ⟨#[48]⟩ (3 - v.size) W (by omega) (by show 1 * _ ≤ _; omega)
      rw [show ((3 - v.size : Nat) : Int) = 3 - (v.size : Int) by omega] at h9
      exact h9)
    go_wp2_with fail
    refine (HRP.out _).mono ?_
    rintro e w4 ⟨rfl, hb4⟩
    have HB4 := Lib.hid (ext_trans HB3.out hb4)
    clear hb4
    obtain ⟨z, hz⟩ : ∃ z, Tx.stB (Lib.repeatL [48] (3 - v.size)) = z := ⟨_, rfl⟩
    have hzs : z.size ≤ 3 := by rw [← hz, Tx.stB_size, Lib.repeatL_length]; show (3 - v.size) * 1 ≤ 3; omega
    have HZV : Hid (z ++ v = Tx.stB (dig3 r)) := Lib.hid (by
      rw [← hz, HVL.out, ← HV.out, app_str, dig3_pad HRL.out])
    rw [hz]
    clear hz
    obtain ⟨t, ht⟩ : ∃ t, Tx.stB (Lib.trimRightB (dig3 r) 48) = t := ⟨_, rfl⟩
    have HTR : Hid (∀ W, Calls Tryd.prog 79 #[.string (z ++ v), .string ⟨#[48]⟩] W fun e w' => e = .returned (.string t) ∧ w' = W) := Lib.hid (fun W => by
      have h9 := Tryd.strings_TrimRight_one (z ++ v) 48 (by decide) W (by rw [HZV.out, Tx.stB_size]; show (3 : Nat) ≤ _; omega)
      rw [HZV.out, Tx.stB_list] at h9
      rw [HZV.out, ← ht]
      exact h9)
    have hts : t.size ≤ 3 := by
      rw [← ht, Tx.stB_size]
      exact Nat.le_trans (trim_len (dig3 r) 48) (Nat.le_refl 3)
    have HTT := Lib.hid ht
    clear ht
    go_wp2_with fail
    refine (HTR.out w4).mono ?_
    rintro e w5 ⟨rfl, rfl⟩
    have HTE : Hid (t.data.toList = [] ↔ r = 0) := Lib.hid (by rw [← HTT.out, Tx.stB_list]; exact trim_dig3 HRL.out)
    by_cases hr0 : r = 0
    · have hte : t.toList.isEmpty = true := by
        have h9 := HTE.out.2 hr0
        rw [bs_toList, h9]; rfl
      have HF : Hid (numT (-(m : Int)) = [45] ++ decS (m / 1000)) := Lib.hid (by rw [HNT.out, HR.out, hr0]; unfold fracT; rw [if_pos rfl, List.append_nil])
      go_wp2
      go_ret
      exact ⟨by rw [HF.out, ← app_str, HU.out]; rfl, HB4.out⟩
    · have hte : t.toList.isEmpty = false := by
        cases h9 : t.toList.isEmpty with
        | false => rfl
        | true => exact absurd (HTE.out.1 (by rw [← bs_toList]; exact List.isEmpty_iff.1 h9)) hr0
      have HF : Hid (numT (-(m : Int)) = [45] ++ decS (m / 1000) ++ [46] ++ Lib.trimRightB (dig3 r) 48) := Lib.hid (by rw [HNT.out, HR.out]; unfold fracT; rw [if_neg hr0]; simp)
      go_wp2
      go_ret
      exact ⟨by rw [HF.out, ← app_str, ← app_str, ← app_str, HU.out, HTT.out]; rfl, HB4.out⟩
  · obtain ⟨m, rfl⟩ : ∃ m : Nat, n = (m : Int) := ⟨n.toNat, by omega⟩
    have HNT : Hid (numT (m : Int) = [] ++ (decS (m / 1000) ++ fracT (m % 1000))) := Lib.hid (by
      unfold numT; rw [if_neg hn, Int.natAbs_natCast])
    have hm2 : (m : Int) < 1000000000000000 := by omega
    have hnn : ¬ (m : Int) < 0 := hn
    clear hn h1 h2
    have HIT : Hid (∀ W, Below w.heap.size w W → Calls Tryd.prog 78 #[.int .i64 ((m : Int) / 1000)] W fun e w' => e = .returned (.string (Tx.stB (decS (m / 1000)))) ∧ Below W.heap.size W w') := Lib.hid (fun W hW => by
      have h9 := Tx.itoa_at (m / 1000) (by omega) W (HT.out.ext hW)
      rw [show ((m / 1000 : Nat) : Int) = (m : Int) / 1000 by omega] at h9
      exact h9)
    obtain ⟨r, hr⟩ : ∃ r : Nat, m % 1000 = r := ⟨_, rfl⟩
    have HR := Lib.hid hr
    have HRL : Hid (r < 1000) := Lib.hid (by omega)
    have HIT2 : Hid (∀ W, Below w.heap.size w W → Calls Tryd.prog 78 #[.int .i64 ((m : Int) % 1000)] W fun e w' => e = .returned (.string (Tx.stB (decS r))) ∧ Below W.heap.size W w') := Lib.hid (fun W hW => by
      have h9 := Tx.itoa_at r (by omega) W (HT.out.ext hW)
      rw [show (r : Int) = (m : Int) % 1000 by omega] at h9
      exact h9)
    have HDL : Hid ((decS (m / 1000)).length ≤ 20) := Lib.hid (Nat.le_trans (decS_length (k := 15) (by omega) (by omega)) (by omega))
    have HRD : Hid ((decS r).length ≤ 3) := Lib.hid (decS_length (k := 3) (by omega) (by omega))
    clear hr
    have hm9 : (m : Int) ≤ 9223372036854775807 := by omega
    clear hm2
    go_wp2_with fail
    refine (HIT.out _ (Below.refl _ _)).mono ?_
    rintro e w2 ⟨rfl, hb2⟩
    have HB2 := Lib.hid hb2
    clear hb2
    obtain ⟨u, hu⟩ : ∃ u, Tx.stB (decS (m / 1000)) = u := ⟨_, rfl⟩
    have hus : u.size ≤ 20 := by rw [← hu, Tx.stB_size]; exact HDL.out
    have HU := Lib.hid hu
    rw [hu]
    clear hu
    go_wp2_with fail
    refine (HIT2.out _ HB2.out).mono ?_
    rintro e w3 ⟨rfl, hb3⟩
    have HB3 := Lib.hid (ext_trans HB2.out hb3)
    clear hb3
    obtain ⟨v, hv⟩ : ∃ v, Tx.stB (decS r) = v := ⟨_, rfl⟩
    have hvs : v.size ≤ 3 := by rw [← hv, Tx.stB_size]; exact HRD.out
    have HVL : Hid (v.size = (decS r).length) := Lib.hid (by rw [← hv, Tx.stB_size])
    have HV := Lib.hid hv
    rw [hv]
    clear hv
    have HRP : Hid (∀ W, Calls Tryd.prog 80 #[.string ⟨#[48]⟩, .int .i64 (3 - (v.size : Int))] W fun e w' => e = .returned (.string (Tx.stB (Lib.repeatL [48] (3 - v.size)))) ∧ Below W.heap.size W w') := Lib.hid (fun W => by
      have h9 := Tryd.strings_Repeat ⟨#[48]⟩ (3 - v.size) W (by omega) (by show 1 * _ ≤ _; omega)
      rw [show ((3 - v.size : Nat) : Int) = 3 - (v.size : Int) by omega] at h9
      exact h9)
    go_wp2_with fail
    refine (HRP.out _).mono ?_
    rintro e w4 ⟨rfl, hb4⟩
    have HB4 := Lib.hid (ext_trans HB3.out hb4)
    clear hb4
    obtain ⟨z, hz⟩ : ∃ z, Tx.stB (Lib.repeatL [48] (3 - v.size)) = z := ⟨_, rfl⟩
    have hzs : z.size ≤ 3 := by rw [← hz, Tx.stB_size, Lib.repeatL_length]; show (3 - v.size) * 1 ≤ 3; omega
    have HZV : Hid (z ++ v = Tx.stB (dig3 r)) := Lib.hid (by
      rw [← hz, HVL.out, ← HV.out, app_str, dig3_pad HRL.out])
    rw [hz]
    clear hz
    obtain ⟨t, ht⟩ : ∃ t, Tx.stB (Lib.trimRightB (dig3 r) 48) = t := ⟨_, rfl⟩
    have HTR : Hid (∀ W, Calls Tryd.prog 79 #[.string (z ++ v), .string ⟨#[48]⟩] W fun e w' => e = .returned (.string t) ∧ w' = W) := Lib.hid (fun W => by
      have h9 := Tryd.strings_TrimRight_one (z ++ v) 48 (by decide) W (by rw [HZV.out, Tx.stB_size]; show (3 : Nat) ≤ _; omega)
      rw [HZV.out, Tx.stB_list] at h9
      rw [HZV.out, ← ht]
      exact h9)
    have hts : t.size ≤ 3 := by
      rw [← ht, Tx.stB_size]
      exact Nat.le_trans (trim_len (dig3 r) 48) (Nat.le_refl 3)
    have HTT := Lib.hid ht
    clear ht
    go_wp2_with fail
    refine (HTR.out w4).mono ?_
    rintro e w5 ⟨rfl, rfl⟩
    have HTE : Hid (t.data.toList = [] ↔ r = 0) := Lib.hid (by rw [← HTT.out, Tx.stB_list]; exact trim_dig3 HRL.out)
    by_cases hr0 : r = 0
    · have hte : t.toList.isEmpty = true := by
        have h9 := HTE.out.2 hr0
        rw [bs_toList, h9]; rfl
      have HF : Hid (numT ((m : Int)) = [] ++ decS (m / 1000)) := Lib.hid (by rw [HNT.out, HR.out, hr0]; unfold fracT; rw [if_pos rfl, List.append_nil])
      go_wp2
      go_ret
      exact ⟨by rw [HF.out, ← app_str, HU.out]; rfl, HB4.out⟩
    · have hte : t.toList.isEmpty = false := by
        cases h9 : t.toList.isEmpty with
        | false => rfl
        | true => exact absurd (HTE.out.1 (by rw [← bs_toList]; exact List.isEmpty_iff.1 h9)) hr0
      have HF : Hid (numT ((m : Int)) = [] ++ decS (m / 1000) ++ [46] ++ Lib.trimRightB (dig3 r) 48) := Lib.hid (by rw [HNT.out, HR.out]; unfold fracT; rw [if_neg hr0]; simp)
      go_wp2
      go_ret
      exact ⟨by rw [HF.out, ← app_str, ← app_str, ← app_str, HU.out, HTT.out]; rfl, HB4.out⟩
end Fd
end Go.Proofs.YtkjgifhklajifaaDoor
