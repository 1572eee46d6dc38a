/- allDigits, whole, isPre, within of package value. whole of package value. readNat of package value. -/
import Derived.Test.YtemenlcigengeaaGreatDoorProg
import Derived.Test.YtemenlcigengeaaGreatDoorTq00
import Derived.Test.YtemenlcigengeaaGreatDoorTq16
namespace Go.Proofs.YtemenlcigengeaaGreatDoor
open Go.RowKit
namespace Dg
theorem ret_bool {a b : Bool} (h : a = b) : Ending.returned (.bool a) = .returned (.bool b) := by rw [h]
theorem all_snoc (p : UInt8 → Bool) (s : ByteArray) (k : Nat) (hk : k < s.size) (h : (s.data.toList.take k).all p = true) (hp : p s[k] = true) : (s.data.toList.take (k + 1)).all p = true := by
  rw [take_snoc s k hk, List.all_append, h]; simp [hp]
theorem all_not (p : UInt8 → Bool) (s : ByteArray) (k : Nat) (hk : k < s.size) (hp : p s[k] = false) : s.data.toList.all p = false := by
  rw [List.all_eq_false]
  exact ⟨s[k], by rw [show s[k] = s.data.toList[k]'(by simpa using hk) from rfl]; exact List.getElem_mem _, by simp [hp]⟩
theorem all_end (p : UInt8 → Bool) (s : ByteArray) (k : Nat) (hk : ¬ k < s.size) (h : (s.data.toList.take k).all p = true) : s.data.toList.all p = true := by
  rwa [List.take_of_length_le (by simp; omega)] at h
end Dg
def digN (c : Int) : Bool := decide (48 ≤ c ∧ c ≤ 57)
def digC (c : UInt8) : Bool := digN (c.toNat : Int)
def digsB (l : List UInt8) : Bool := l.all digC
set_option maxHeartbeats 2000000 in
theorem value_allDigits (s : ByteArray) (hs : s.size ≤ maxLen) (w : World) : Calls Tryz.prog 146 #[.string s] w fun e w' => e = .returned (.bool (digsB s.data.toList)) ∧ w = w' := by
  unfold maxLen at hs
  go_enter Tryz.func146, Tryz.ntmps146
  go_wp2
  go_loop [6] (fun i => ∃ k : Nat, k ≤ s.size ∧ i = .int .i64 k ∧ Hid ((s.data.toList.take k).all digC = true)) (fun i => s.size - (intOf i).toNat)
  case atStart => exact ⟨0, by omega, rfl, rfl⟩
  case round =>
    obtain ⟨k, hk, rfl, HA⟩ := hrel
    by_cases hlt : k < s.size
    · by_cases hw : digC s[k] = true
      · have HW := Lib.hid hw
        have hn : 48 ≤ (s[k].toNat : Int) ∧ (s[k].toNat : Int) ≤ 57 := of_decide_eq_true hw
        obtain ⟨hn1, hn2⟩ := hn
        clear hw
        go_wp2
        all_goals go_round
        case rel => exact ⟨k + 1, by omega, by go_num, Dg.all_snoc _ _ _ hlt HA.out HW.out⟩
        case measure => simp [intOf]; omega
      · have hw' : digC s[k] = false := by simpa using hw
        have HW : Hid (digsB s.data.toList = false) := Dg.all_not _ _ _ hlt hw'
        have hn : ¬ (48 ≤ (s[k].toNat : Int) ∧ (s[k].toNat : Int) ≤ 57) := of_decide_eq_false hw'
        clear hw hw'
        by_cases h1 : (s[k].toNat : Int) < 48
        · clear hn
          go_wp2
          go_ret
          exact ⟨Dg.ret_bool HW.out.symm, rfl⟩
        · have h2 : (57 : Int) < (s[k].toNat : Int) := by omega
          clear hn
          go_wp2
          go_ret
          exact ⟨Dg.ret_bool HW.out.symm, rfl⟩
    · have HW : Hid (digsB s.data.toList = true) := Dg.all_end _ _ _ hlt HA.out
      go_wp2
      go_ret
      exact ⟨Dg.ret_bool HW.out.symm, rfl⟩
end Go.Proofs.YtemenlcigengeaaGreatDoor
namespace Go.Proofs.YtemenlcigengeaaGreatDoor
open Go.RowKit
def zeroAt (l : List UInt8) : Bool := match l with | [] => false | c :: _ => decide ((c.toNat : Int) = 48)
def wholeB (l : List UInt8) : Bool := !l.isEmpty && !(decide (1 < l.length) && zeroAt l) && digsB l
theorem zeroAt_of (s : ByteArray) (h : 0 < s.size) : zeroAt s.data.toList = decide ((s[0].toNat : Int) = 48) := by
  have hl : 0 < s.data.toList.length := by simpa using h
  have e : s.data.toList = s[0] :: s.data.toList.drop 1 := by
    rw [show s[0] = s.data.toList[0]'hl from rfl, ← List.drop_eq_getElem_cons hl]; simp
  rw [e]; rfl
set_option maxHeartbeats 4000000 in
theorem value_whole (s : ByteArray) (hs : s.size ≤ maxLen) (w : World) : Calls Tryz.prog 122 #[.string s] w fun e w' => e = .returned (.bool (wholeB s.data.toList)) ∧ w = w' := by
  have hs' := hs
  unfold maxLen at hs'
  by_cases h0 : 0 < s.size
  · have hem : s.toList.isEmpty = false := by
      rw [ByteArray.toList_eq]
      cases hq : s.data.toList with
      | nil => have hl : s.data.toList.length = s.size := Array.length_toList
               rw [hq] at hl; simp at hl; omega
      | cons _ _ => rfl
    have hem' : s.data.toList.isEmpty = false := by rw [← ByteArray.toList_eq]; exact hem
    have HW : Hid (wholeB s.data.toList = (!(decide (1 < s.size) && decide ((s[0].toNat : Int) = 48)) && digsB s.data.toList)) := by
      have : wholeB s.data.toList = (!(decide (1 < s.size) && decide ((s[0].toNat : Int) = 48)) && digsB s.data.toList) := by
        unfold wholeB; rw [hem', zeroAt_of s h0, show s.data.toList.length = s.size from Array.length_toList]; simp
      exact this
    clear hem'
    generalize wholeB s.data.toList = N at *
    by_cases h1 : 1 < s.size
    · by_cases h2 : (s[0].toNat : Int) = 48
      · have HF : Hid (N = false) := by have := HW.out; rw [decide_eq_true h1, decide_eq_true h2] at this; exact this
        clear HW
        go_enter Tryz.func122, Tryz.ntmps122
        go_wp2
        go_ret
        exact ⟨Dg.ret_bool HF.out.symm, rfl⟩
      · have HF : Hid (N = digsB s.data.toList) := by have := HW.out; rw [decide_eq_false h2] at this; simp at this; exact this
        clear HW
        go_enter Tryz.func122, Tryz.ntmps122
        go_wp2_with (go_at_call 146; refine (value_allDigits s hs _).mono ?_; rintro e w' ⟨rfl, rfl⟩)
        go_ret
        exact ⟨Dg.ret_bool HF.out.symm, rfl⟩
    · have HF : Hid (N = digsB s.data.toList) := by have := HW.out; rw [decide_eq_false h1] at this; simp at this; exact this
      clear HW
      go_enter Tryz.func122, Tryz.ntmps122
      go_wp2_with (go_at_call 146; refine (value_allDigits s hs _).mono ?_; rintro e w' ⟨rfl, rfl⟩)
      go_ret
      exact ⟨Dg.ret_bool HF.out.symm, rfl⟩
  · have hnil : s.data.toList = [] := List.eq_nil_of_length_eq_zero (by have hl : s.data.toList.length = s.size := Array.length_toList
                                                                        omega)
    have hem : s.toList.isEmpty = true := by rw [ByteArray.toList_eq, hnil]; rfl
    have HF : Hid (wholeB s.data.toList = false) := by
      have : wholeB s.data.toList = false := by rw [hnil]; rfl
      exact this
    clear hnil
    go_enter Tryz.func122, Tryz.ntmps122
    go_wp2
    go_ret
    exact ⟨Dg.ret_bool HF.out.symm, rfl⟩
end Go.Proofs.YtemenlcigengeaaGreatDoor
namespace Go.Proofs.YtemenlcigengeaaGreatDoor
open Go.RowKit
namespace Nm
theorem ext_list (s : ByteArray) (i n : Nat) : (s.extract i (i + n)).data.toList = (s.data.toList.drop i).take n := by
  simp [List.take_drop]
theorem ext_size (s : ByteArray) (i n : Nat) (h : i + n ≤ s.size) : (s.extract i (i + n)).size = n := by
  simp; omega
/-- a row of words of the call's own, with the room behind it -/
def RowC (w : World) (b : Nat) (l : List Nat) (cap : Nat) : Prop := ∃ cur rest, w.heap[b]? = some (.cells cur 129 (0, 0)) ∧ cur.toList = wcs l ++ rest ∧ cur.size = cap
theorem RowC.own {w : World} {b : Nat} {l : List Nat} {cap : Nat} (h : RowC w b l cap) : Own w b l := by
  obtain ⟨cur, rest, h1, h2, _⟩ := h; exact ⟨cur, rest, h1, h2⟩
theorem RowC.set' {w : World} {b : Nat} {l : List Nat} {cap : Nat} (h : RowC w b l cap) {i : Nat} (hi : i < l.length) (x : Nat) {z : Int} (hz : z = (x : Int)) : RowC (w.setCell ⟨b, i, none⟩ (.int .u32 z)) b (l.set i x) cap := by
  subst hz
  obtain ⟨cur, rest, h, hc, hs⟩ := h
  refine ⟨cur.setIfInBounds i (.int .u32 (x : Int)), rest, ?_, ?_, by simpa using hs⟩
  · simp only [World.setCell, Array.getElem?_modify, h]; simp
  · rw [Array.toList_setIfInBounds, hc, List.set_append_left _ _ (by rw [wcs_length]; exact hi)]
    simp [wcs, List.map_set, wc]
theorem RowC.ext {w w' : World} {b : Nat} {l : List Nat} {cap : Nat} (h : RowC w b l cap) (hb : Below w.heap.size w w') : RowC w' b l cap := by
  have hl := h.own.lt
  obtain ⟨cur, rest, h, hc, hs⟩ := h
  exact ⟨cur, rest, (hb.block b hl).trans h, hc, hs⟩
theorem RowC.row {w : World} {base b : Nat} {l : List Nat} {cap : Nat} (h : RowC w b l cap) (hb : base ≤ b) (hl : l.length ≤ cap) (hm : cap ≤ maxLen) : w.ownsRow base 129 1 (.slice (some ⟨b, 0, none⟩) l.length cap) l.length (wcs l) := by
  obtain ⟨cur, rest, h, hc, hs⟩ := h
  refine ⟨by rw [wcs_length, Nat.mul_one], .inr ⟨b, cap, cur, rfl, hb, h, hl, hm, by rw [hs, Nat.mul_one], ?_⟩⟩
  rw [hc, Nat.mul_one, List.take_append_of_le_length (by rw [wcs_length]; exact Nat.le_refl _), List.take_of_length_le (by rw [wcs_length]; exact Nat.le_refl _)]
theorem RowC.ofRow {w : World} {base n : Nat} {v : Value} {l : List Nat} (h : w.ownsRow base 129 1 v n (wcs l)) (hv : v ≠ .slice none 0 0) : ∃ g cap, v = .slice (some ⟨g, 0, none⟩) n cap ∧ base ≤ g ∧ n ≤ cap ∧ cap ≤ maxLen ∧ RowC w g l cap := by
  obtain ⟨h1, ⟨h2, _⟩ | ⟨g, cap, cur, rfl, hb, hg, hn, hm, hs, ht⟩⟩ := h
  · exact absurd h2 hv
  · exact ⟨g, cap, rfl, hb, hn, hm, cur, cur.toList.drop (n * 1), hg, by rw [← ht, List.take_append_drop], by rw [hs, Nat.mul_one]⟩
set_option maxRecDepth 100000 in
set_option maxHeartbeats 16000000 in
theorem readNat_at (s : ByteArray) (hd : Digs s.data.toList) (hs : s.size ≤ 1000000000) (w : World) : Calls Tryz.prog 123 #[.string s] w (NPost w (decv s.data.toList)) := by
  have HD := Lib.hid hd
  have hL : s.data.toList.length = s.size := Array.length_toList
  have HL := Lib.hid hL
  have HB := Lib.hid u32_info
  obtain ⟨ti, hi, hz0, hz1, hz2⟩ := info_parts u32_info
  have HI := Lib.hid hi
  have HZ0 := Lib.hid hz0
  have HZ1 := Lib.hid hz1
  have HZ2 := Lib.hid hz2
  clear hd hL hi hz0 hz1 hz2
  go_enter Tryz.func123, Tryz.ntmps123
  go_wp2_with (refine wpList_make_own w rfl _ _ 65 rfl w.heap.size 129 ti _ 1 Tryz.underlying65 HI.out HZ0.out HZ1.out .i64 .i64 _ (s.size / 9 + 1) rfl rfl ?_ ?_ ?_ (Nat.le_refl _) ?_; rotate_left 3; intro W0 hown0 hg0)
  case refine_1 => go_num
  case refine_2 => rw [HZ2.out]; omega
  case refine_3 => unfold maxLen; omega
  have hB0 : Below w.heap.size w W0 := Below.grown (Below.refl _ _) hg0 (Nat.le_refl _) (fun k e => by cases e)
  obtain ⟨b0, cap0, hv0, hb0, hn0, hm0, hR0⟩ := RowC.ofRow (l := []) hown0 (by simp)
  have hq : b0 = w.heap.size ∧ cap0 = s.size / 9 + 1 := by injection hv0 with h1 h2 h3; injection h1 with h1; injection h1 with h1; exact ⟨h1.symm, h3.symm⟩
  obtain ⟨rfl, rfl⟩ := hq
  clear hv0 hown0 hg0
  go_loopw [3, 4] (fun ov iv wr => ∃ (i : Nat) (out : List Nat) (b cap : Nat), i ≤ s.size ∧ iv = .int .i64 i ∧ ov = .slice (some ⟨b, 0, none⟩) out.length cap ∧ w.heap.size ≤ b ∧ out.length ≤ i ∧ out.length ≤ cap ∧ cap ≤ 9223372036854775807 ∧ Hid (Dg out) ∧ Hid (val out = decv (s.data.toList.take i)) ∧ RowC wr b out cap ∧ Below w.heap.size w wr) (fun _ iv _ => s.size - (intOf iv).toNat)
  case atStart => exact ⟨0, [], _, _, by omega, rfl, rfl, Nat.le_refl _, by simp, by simp, by unfold maxLen at hm0; exact hm0, Dg.nil, Lib.hid rfl, hR0, hB0⟩
  case round =>
    clear hR0 hB0
    obtain ⟨i, out, b, cap, hi, rfl, rfl, hb, hoi, hoc, hcap, HDo, HV, hR, hBr⟩ := hrel
    by_cases hlt : i < s.size
    · obtain ⟨n, hn⟩ : ∃ n, (s.size - i - 1) % 9 + 1 = n := ⟨_, rfl⟩
      have hn1 : 1 ≤ n := by omega
      have hn9 : n ≤ 9 := by omega
      have hin : i + n ≤ s.size := by omega
      have hnI : ((s.size : Int) - (i : Int) - 1) % 9 + 1 = (n : Int) := by omega
      clear hn
      have HEL := Lib.hid (ext_list s i n)
      have hes := ext_size s i n hin
      have HES := Lib.hid hes
      clear hes
      go_wp2_with (refine wpList_bytes_of_string rfl _ 9 135 5 rfl Tryz.underlying9 Tryz.underlying135 Tryz.underlying5 (s.extract i (i + n)) rfl ?_ ?_; rotate_left 1; intro cap1 W1 hS1 hB1 hlt1)
      case refine_1 => rw [HES.out]; unfold maxLen; omega
      have HC : Hid (((s.data.toList.drop i).take n).length = n) := by
        have : ((s.data.toList.drop i).take n).length = n := by rw [List.length_take, List.length_drop, HL.out]; omega
        exact this
      have HCd := Lib.hid ((HD.out.drop i).take n)
      have HCV := Lib.hid (decv_take_add s.data.toList i n (by rw [HL.out]; exact hin))
      rw [HEL.out] at hS1
      rw [HES.out] at hS1
      have hR1 := hR.ext hB1
      have hBr1 := ext_trans hBr hB1
      clear HEL HES hR hBr hlt1
      generalize (s.data.toList.drop i).take n = C at *
      generalize wr.heap.size = bc at *
      go_wp2
      go_loop [6, 7, 36] (fun pv bv kv => ∃ k p bs : Nat, k ≤ n ∧ kv = .int .i64 k ∧ pv = .int .u64 p ∧ bv = .int .u64 bs ∧ p < bs ∧ bs ≤ 1000000000 ∧ Hid (bs = 10 ^ k) ∧ Hid (p = decv (C.take k))) (fun _ _ kv => n - (intOf kv).toNat)
      case atStart => exact ⟨0, 0, 1, by omega, rfl, rfl, rfl, by omega, by omega, Lib.hid rfl, Lib.hid rfl⟩
      case round =>
        obtain ⟨k, p, bs, hk, rfl, rfl, rfl, hpb, hbs, HBS, HP⟩ := hrel
        by_cases hkn : k < n
        · have hkC : k < C.length := by have := HC.out; omega
          obtain ⟨_, _, hq, e0⟩ := sl_addr hS1 (bcells_get _ _ hkC)
          cases hq
          rw [Nat.zero_add] at e0
          have hc := HCd.out C[k] (List.getElem_mem hkC)
          have HT : Hid (decv (C.take (k + 1)) = p * 10 + digv C[k]) := by
            have : decv (C.take (k + 1)) = p * 10 + digv C[k] := by rw [List.take_succ_eq_append_getElem hkC, decv_snoc, HP.out]
            exact this
          have HBS2 : Hid (bs * 10 = 10 ^ (k + 1)) := by
            have : bs * 10 = 10 ^ (k + 1) := by rw [HBS.out, Nat.pow_succ]
            exact this
          have hb8 : bs ≤ 100000000 := by
            rw [HBS.out]
            have := Nat.pow_le_pow_right (show 0 < 10 by decide) (show k ≤ 8 by omega)
            simpa using this
          have HDV : Hid (digv C[k] = C[k].toNat - 48) := Lib.hid rfl
          generalize digv C[k] = dg at *
          generalize C[k].toNat = c0 at *
          obtain ⟨hc1, hc2⟩ := hc
          have hdg : dg = c0 - 48 := HDV.out
          have hdgI : (c0 : Int) - 48 = (dg : Int) := by omega
          have hdg9 : dg ≤ 9 := by omega
          clear hdg HDV
          go_wp2
          go_round
          case rel => exact ⟨k + 1, p * 10 + dg, bs * 10, by omega, by go_num, by go_num, by go_num, by omega, by omega, HBS2, Lib.hid HT.out.symm⟩
          case measure => simp [intOf]; omega
        · obtain rfl : k = n := by omega
          have HP2 : Hid (p = decv C) := by have := HP.out; rw [List.take_of_length_le (by rw [HC.out]; exact Nat.le_refl _)] at this; exact this
          have HZ : Hid (val (out.take 0) + B ^ 0 * p = val (out.take 0) * bs + p) := by
            have : val (out.take 0) + B ^ 0 * p = val (out.take 0) * bs + p := by simp [val]
            exact this
          clear HP hS1
          go_wp2
          go_loopw [10, 55] (fun cv qv wr => ∃ (q cr : Nat) (S : List Nat), q ≤ out.length ∧ qv = .int .i64 q ∧ cv = .int .u64 cr ∧ cr ≤ 1000000000 ∧ Hid (S.length = out.length) ∧ Hid (Dg S) ∧ Hid (S.drop q = out.drop q) ∧ Hid (val (S.take q) + B ^ q * cr = val (out.take q) * bs + p) ∧ RowC wr b S cap ∧ Below w.heap.size w wr) (fun _ qv _ => out.length - (intOf qv).toNat)
          case atStart => exact ⟨0, p, out, by omega, rfl, rfl, by omega, Lib.hid rfl, HDo, Lib.hid rfl, HZ, hR1, hBr1⟩
          case round =>
            clear HZ hR1 hBr1
            obtain ⟨q, cr, S, hq, rfl, rfl, hcr, HSl, HSd, HSr, HI2, hR2, hBr2⟩ := hrel
            by_cases hlq : q < out.length
            · have hqS : q < S.length := by have := HSl.out; omega
              have o0 := hR2.own.cell hqS
              have o1 := hR2.own.frozen q
              obtain ⟨hXe, hSr2⟩ := drop_get HSr.out hqS hlq
              have hX := HDo.out.get hlq
              have hV1 := val_take_succ out q hlq
              rw [hXe] at o0
              have HSr2 : ∀ z, Hid ((S.set q z).drop (q + 1) = out.drop (q + 1)) := fun z => by
                have : (S.set q z).drop (q + 1) = out.drop (q + 1) := by rw [List.drop_set_of_lt (by omega)]; exact hSr2
                exact this
              generalize out[q] = X at *
              rw [B_eq] at hX
              have hm1 : (X : Int) * (bs : Int) ≤ 4294967295000000000 ∧ 0 ≤ (X : Int) * (bs : Int) := by
                have h : X * bs ≤ 4294967295 * 1000000000 := Nat.mul_le_mul (by omega) hbs
                have h2 : ((X * bs : Nat) : Int) = (X : Int) * (bs : Int) := Int.natCast_mul _ _
                omega
              obtain ⟨hm2, hm3⟩ := hm1
              have HM := Lib.hid (Int.natCast_mul X bs)
              have HR := Lib.hid (read_step (o := X) HI2.out)
              rw [← val_take_set S q _ hqS, ← hV1, ← Nat.pow_succ] at HR
              have HD3 := HSr2 ((cr + X * bs) % 4294967296)
              clear HSr2 hSr2 hXe hV1 HI2
              go_wp2
              go_roundw
              case rel => exact ⟨q + 1, (cr + X * bs) / 4294967296, S.set q ((cr + X * bs) % 4294967296), by omega, by go_num, by rw [← HM.out]; go_num, by have := HM.out; omega, Hid.len_set HSl _ _, Hid.dg_set HSd _ (Nat.mod_lt _ B_pos), HD3, HR, hR2.set' hqS _ (by rw [← HM.out]; omega), hBr2.setCell hb _⟩
              case measure => simp [intOf]; omega
            · obtain rfl : q = out.length := by omega
              have HV2 : Hid (val S + B ^ S.length * cr = decv (s.data.toList.take (i + k))) := by
                have h1 := HI2.out
                rw [List.take_of_length_le (by rw [HSl.out]; exact Nat.le_refl _), List.take_length, HV.out, HBS.out, HP2.out, ← HCV.out, ← HSl.out] at h1
                exact h1
              have hSl : S.length = out.length := HSl.out
              rw [← hSl] at hoi hoc ⊢
              have HHR := Lib.hid hR2
              clear hSl hlq hq HI2 HSr HSl HDo HV HCV HP2 HBS HC HCd
              by_cases hc0 : 0 < cr
              · have hrow := hR2.row (base := w.heap.size) hb hoc (by unfold maxLen; exact hcap)
                have hrow2 := hrow.alloc (Obj.cells (wcs [cr]).toArray 129)
                have hsl := (Own.new wr [cr]).sl (c := 1) (by simp) (by decide)
                have hgb : Below w.heap.size w (wr.alloc (Obj.cells (wcs [cr]).toArray 129)) := ext_trans hBr2 (by go_grown)
                have hc0B : ((cr : Int) > 0) := by omega
                go_wp2_with (at_builtin; refine wpList_append_sl rfl _ _ 65 rfl w.heap.size 129 Tryz.underlying65 HB.out rfl (by decide) rfl hrow2 rfl hsl ?c1 (wcs_one _) ?c2 ?c3 ?c4 ?_; rotate_left 4; intro v2 w2 hown2 hg2 hv2)
                case c1 => rfl
                case c2 => simp; unfold maxLen; omega
                case c3 => simp; omega
                case c4 => simp; have := hBr2.size; omega
                have hb2 : Below w.heap.size w w2 := Below.grown hgb hg2 hgb.size (fun k e => by cases e; exact hb)
                have ew : wcs S ++ wcs [cr] = wcs (S ++ [cr]) := by simp [wcs]
                rw [ew] at hown2
                obtain ⟨g, cap2, rfl, h1, h2, h3, h4⟩ := RowC.ofRow hown2 (fun e => by have := hv2.1 e; simp at this)
                have HV3 : Hid (val (S ++ [cr]) = decv (s.data.toList.take (i + k))) := by
                  have h1 := HV2.out
                  have : val (S ++ [cr]) = decv (s.data.toList.take (i + k)) := by rw [val_append]; simpa [val] using h1
                  exact this
                have HD3 : Hid (Dg (S ++ [cr])) := HSd.out.append (Dg.cons.2 ⟨by rw [B_eq]; omega, Dg.nil⟩)
                have HLL : Hid ((S ++ [cr]).length = S.length + 1) := by have : (S ++ [cr]).length = S.length + 1 := by simp
                                                                         exact this
                clear hrow hrow2 hsl hgb ew hown2 hg2 hv2 HHR hR2
                unfold maxLen at h3
                go_wp2
                go_roundw
                case rel => exact ⟨i + k, S ++ [cr], g, cap2, by omega, by go_num, by rw [HLL.out]; rfl, h1, by rw [HLL.out]; omega, by rw [HLL.out]; exact h2, h3, HD3, HV3, h4, hb2⟩
                case measure => simp [intOf]; omega
              · obtain rfl : cr = 0 := by omega
                have HV3 : Hid (val S = decv (s.data.toList.take (i + k))) := by
                  have h1 := HV2.out
                  rw [Nat.mul_zero, Nat.add_zero] at h1
                  exact h1
                clear HV2
                go_wp2
                go_roundw
                case rel => exact ⟨i + k, S, b, cap, by omega, by go_num, rfl, hb, by omega, hoc, hcap, HSd, HV3, HHR.out, hBr2⟩
                case measure => simp [intOf]; omega
    · obtain rfl : i = s.size := by omega
      have HV2 : Hid (val out = decv s.data.toList) := by
        have := HV.out
        rw [List.take_of_length_le (by rw [HL.out]; exact Nat.le_refl _)] at this
        exact this
      clear HV
      go_wp2_with fail
      have hT := trim_at out HDo.out _ _ (hR.own.sl (c := cap) hoc (by unfold maxLen; exact hcap))
      rw [HV2.out] at hT
      refine Calls.mono hT ?_
      rintro e w' ⟨v, rfl, hv, rfl⟩
      clear hT
      go_wp2
      go_ret
      exact ⟨_, rfl, hv, hBr⟩
end Nm
end Go.Proofs.YtemenlcigengeaaGreatDoor
