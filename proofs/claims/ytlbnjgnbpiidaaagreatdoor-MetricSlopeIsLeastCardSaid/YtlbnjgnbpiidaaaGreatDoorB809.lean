/- whole of package value. readNat of package value. strings.CutPrefix, xratOf of package value: ratios that are read. -/
import Derived.Test.YtlbnjgnbpiidaaaGreatDoorB808
import Derived.Test.YtlbnjgnbpiidaaaGreatDoorB806
import Derived.Test.YtlbnjgnbpiidaaaGreatDoorB807
namespace Go.Proofs.YtlbnjgnbpiidaaaGreatDoor
open Go.RowKit
def zeroAt (l : List UInt8) : Bool := match l with | [] => false | c :: _ => decide ((c.toNat : Int) = 48)
def wholeB (l : List UInt8) : Bool := !l.isEmpty && !(decide (1 < l.length) && zeroAt l) && digsB l
theorem zeroAt_of (s : ByteArray) (h : 0 < s.size) : zeroAt s.data.toList = decide ((s[0].toNat : Int) = 48) := by
  have hl : 0 < s.data.toList.length := by simpa using h
  have e : s.data.toList = s[0] :: s.data.toList.drop 1 := by
    rw [show s[0] = s.data.toList[0]'hl from rfl, ← List.drop_eq_getElem_cons hl]; simp
  rw [e]; rfl
set_option maxHeartbeats 4000000 in
theorem value_whole (s : ByteArray) (hs : s.size ≤ maxLen) (w : World) : Calls Tryz.prog 145 #[.string s] w fun e w' => e = .returned (.bool (wholeB s.data.toList)) ∧ w = w' := by
  have hs' := hs
  unfold maxLen at hs'
  by_cases h0 : 0 < s.size
  · have hem : s.toList.isEmpty = false := by
      rw [ByteArray.toList_eq]
      cases hq : s.data.toList with
      | nil => have hl : s.data.toList.length = s.size := Array.length_toList
               rw [hq] at hl; simp at hl; omega
      | cons _ _ => rfl
    have hem' : s.data.toList.isEmpty = false := by rw [← ByteArray.toList_eq]; exact hem
    have HW : Hid (wholeB s.data.toList = (!(decide (1 < s.size) && decide ((s[0].toNat : Int) = 48)) && digsB s.data.toList)) := by
      have : wholeB s.data.toList = (!(decide (1 < s.size) && decide ((s[0].toNat : Int) = 48)) && digsB s.data.toList) := by
        unfold wholeB; rw [hem', zeroAt_of s h0, show s.data.toList.length = s.size from Array.length_toList]; simp
      exact this
    clear hem'
    generalize wholeB s.data.toList = N at *
    by_cases h1 : 1 < s.size
    · by_cases h2 : (s[0].toNat : Int) = 48
      · have HF : Hid (N = false) := by have := HW.out; rw [decide_eq_true h1, decide_eq_true h2] at this; exact this
        clear HW
        go_enter Tryz.func145, Tryz.ntmps145
        go_wp2
        go_ret
        exact ⟨Dg.ret_bool HF.out.symm, rfl⟩
      · have HF : Hid (N = digsB s.data.toList) := by have := HW.out; rw [decide_eq_false h2] at this; simp at this; exact this
        clear HW
        go_enter Tryz.func145, Tryz.ntmps145
        go_wp2_with (go_at_call 159; refine (value_allDigits s hs _).mono ?_; rintro e w' ⟨rfl, rfl⟩)
        go_ret
        exact ⟨Dg.ret_bool HF.out.symm, rfl⟩
    · have HF : Hid (N = digsB s.data.toList) := by have := HW.out; rw [decide_eq_false h1] at this; simp at this; exact this
      clear HW
      go_enter Tryz.func145, Tryz.ntmps145
      go_wp2_with (go_at_call 159; refine (value_allDigits s hs _).mono ?_; rintro e w' ⟨rfl, rfl⟩)
      go_ret
      exact ⟨Dg.ret_bool HF.out.symm, rfl⟩
  · have hnil : s.data.toList = [] := List.eq_nil_of_length_eq_zero (by have hl : s.data.toList.length = s.size := Array.length_toList
                                                                        omega)
    have hem : s.toList.isEmpty = true := by rw [ByteArray.toList_eq, hnil]; rfl
    have HF : Hid (wholeB s.data.toList = false) := by
      have : wholeB s.data.toList = false := by rw [hnil]; rfl
      exact this
    clear hnil
    go_enter Tryz.func145, Tryz.ntmps145
    go_wp2
    go_ret
    exact ⟨Dg.ret_bool HF.out.symm, rfl⟩
end Go.Proofs.YtlbnjgnbpiidaaaGreatDoor
namespace Go.Proofs.YtlbnjgnbpiidaaaGreatDoor
open Go.RowKit
namespace Nm
theorem ext_list (s : ByteArray) (i n : Nat) : (s.extract i (i + n)).data.toList = (s.data.toList.drop i).take n := by
  simp [List.take_drop]
theorem ext_size (s : ByteArray) (i n : Nat) (h : i + n ≤ s.size) : (s.extract i (i + n)).size = n := by
  simp; omega
/-- a row of words of the call's own, with the room behind it -/
def RowC (w : World) (b : Nat) (l : List Nat) (cap : Nat) : Prop := ∃ cur rest, w.heap[b]? = some (.cells cur 116 (0, 0)) ∧ cur.toList = wcs l ++ rest ∧ cur.size = cap
theorem RowC.own {w : World} {b : Nat} {l : List Nat} {cap : Nat} (h : RowC w b l cap) : Own w b l := by
  obtain ⟨cur, rest, h1, h2, _⟩ := h; exact ⟨cur, rest, h1, h2⟩
theorem RowC.set' {w : World} {b : Nat} {l : List Nat} {cap : Nat} (h : RowC w b l cap) {i : Nat} (hi : i < l.length) (x : Nat) {z : Int} (hz : z = (x : Int)) : RowC (w.setCell ⟨b, i, none⟩ (.int .u32 z)) b (l.set i x) cap := by
  subst hz
  obtain ⟨cur, rest, h, hc, hs⟩ := h
  refine ⟨cur.setIfInBounds i (.int .u32 (x : Int)), rest, ?_, ?_, by simpa using hs⟩
  · simp only [World.setCell, Array.getElem?_modify, h]; simp
  · rw [Array.toList_setIfInBounds, hc, List.set_append_left _ _ (by rw [wcs_length]; exact hi)]
    simp [wcs, List.map_set, wc]
theorem RowC.ext {w w' : World} {b : Nat} {l : List Nat} {cap : Nat} (h : RowC w b l cap) (hb : Below w.heap.size w w') : RowC w' b l cap := by
  have hl := h.own.lt
  obtain ⟨cur, rest, h, hc, hs⟩ := h
  exact ⟨cur, rest, (hb.block b hl).trans h, hc, hs⟩
theorem RowC.row {w : World} {base b : Nat} {l : List Nat} {cap : Nat} (h : RowC w b l cap) (hb : base ≤ b) (hl : l.length ≤ cap) (hm : cap ≤ maxLen) : w.ownsRow base 116 1 (.slice (some ⟨b, 0, none⟩) l.length cap) l.length (wcs l) := by
  obtain ⟨cur, rest, h, hc, hs⟩ := h
  refine ⟨by rw [wcs_length, Nat.mul_one], .inr ⟨b, cap, cur, rfl, hb, h, hl, hm, by rw [hs, Nat.mul_one], ?_⟩⟩
  rw [hc, Nat.mul_one, List.take_append_of_le_length (by rw [wcs_length]; exact Nat.le_refl _), List.take_of_length_le (by rw [wcs_length]; exact Nat.le_refl _)]
theorem RowC.ofRow {w : World} {base n : Nat} {v : Value} {l : List Nat} (h : w.ownsRow base 116 1 v n (wcs l)) (hv : v ≠ .slice none 0 0) : ∃ g cap, v = .slice (some ⟨g, 0, none⟩) n cap ∧ base ≤ g ∧ n ≤ cap ∧ cap ≤ maxLen ∧ RowC w g l cap := by
  obtain ⟨h1, ⟨h2, _⟩ | ⟨g, cap, cur, rfl, hb, hg, hn, hm, hs, ht⟩⟩ := h
  · exact absurd h2 hv
  · exact ⟨g, cap, rfl, hb, hn, hm, cur, cur.toList.drop (n * 1), hg, by rw [← ht, List.take_append_drop], by rw [hs, Nat.mul_one]⟩
set_option maxRecDepth 100000 in
set_option maxHeartbeats 16000000 in
theorem readNat_at (s : ByteArray) (hd : Digs s.data.toList) (hs : s.size ≤ 1000000000) (w : World) : Calls Tryz.prog 146 #[.string s] w (NPost w (decv s.data.toList)) := by
  have HD := Lib.hid hd
  have hL : s.data.toList.length = s.size := Array.length_toList
  have HL := Lib.hid hL
  have HB := Lib.hid u32_info
  obtain ⟨ti, hi, hz0, hz1, hz2⟩ := info_parts u32_info
  have HI := Lib.hid hi
  have HZ0 := Lib.hid hz0
  have HZ1 := Lib.hid hz1
  have HZ2 := Lib.hid hz2
  clear hd hL hi hz0 hz1 hz2
  go_enter Tryz.func146, Tryz.ntmps146
  go_wp2_with (refine wpList_make_own w rfl _ _ 49 rfl w.heap.size 116 ti _ 1 Tryz.underlying49 HI.out HZ0.out HZ1.out .i64 .i64 _ (s.size / 9 + 1) rfl rfl ?_ ?_ ?_ (Nat.le_refl _) ?_; rotate_left 3; intro W0 hown0 hg0)
  case refine_1 => go_num
  case refine_2 => rw [HZ2.out]; omega
  case refine_3 => unfold maxLen; omega
  have hB0 : Below w.heap.size w W0 := Below.grown (Below.refl _ _) hg0 (Nat.le_refl _) (fun k e => by cases e)
  obtain ⟨b0, cap0, hv0, hb0, hn0, hm0, hR0⟩ := RowC.ofRow (l := []) hown0 (by simp)
  have hq : b0 = w.heap.size ∧ cap0 = s.size / 9 + 1 := by injection hv0 with h1 h2 h3; injection h1 with h1; injection h1 with h1; exact ⟨h1.symm, h3.symm⟩
  obtain ⟨rfl, rfl⟩ := hq
  clear hv0 hown0 hg0
  go_loopw [3, 4] (fun ov iv wr => ∃ (i : Nat) (out : List Nat) (b cap : Nat), i ≤ s.size ∧ iv = .int .i64 i ∧ ov = .slice (some ⟨b, 0, none⟩) out.length cap ∧ w.heap.size ≤ b ∧ out.length ≤ i ∧ out.length ≤ cap ∧ cap ≤ 9223372036854775807 ∧ Hid (Dg out) ∧ Hid (val out = decv (s.data.toList.take i)) ∧ RowC wr b out cap ∧ Below w.heap.size w wr) (fun _ iv _ => s.size - (intOf iv).toNat)
  case atStart => exact ⟨0, [], _, _, by omega, rfl, rfl, Nat.le_refl _, by simp, by simp, by unfold maxLen at hm0; exact hm0, Dg.nil, Lib.hid rfl, hR0, hB0⟩
  case round =>
    clear hR0 hB0
    obtain ⟨i, out, b, cap, hi, rfl, rfl, hb, hoi, hoc, hcap, HDo, HV, hR, hBr⟩ := hrel
    by_cases hlt : i < s.size
    · obtain ⟨n, hn⟩ : ∃ n, (s.size - i - 1) % 9 + 1 = n := ⟨_, rfl⟩
      have hn1 : 1 ≤ n := by omega
      have hn9 : n ≤ 9 := by omega
      have hin : i + n ≤ s.size := by omega
      have hnI : ((s.size : Int) - (i : Int) - 1) % 9 + 1 = (n : Int) := by omega
      clear hn
      have HEL := Lib.hid (ext_list s i n)
      have hes := ext_size s i n hin
      have HES := Lib.hid hes
      clear hes
      go_wp2_with (refine wpList_bytes_of_string rfl _ 9 115 5 rfl Tryz.underlying9 Tryz.underlying115 Tryz.underlying5 (s.extract i (i + n)) rfl ?_ ?_; rotate_left 1; intro cap1 W1 hS1 hB1 hlt1)
      case refine_1 => rw [HES.out]; unfold maxLen; omega
      have HC : Hid (((s.data.toList.drop i).take n).length = n) := by
        have : ((s.data.toList.drop i).take n).length = n := by rw [List.length_take, List.length_drop, HL.out]; omega
        exact this
      have HCd := Lib.hid ((HD.out.drop i).take n)
      have HCV := Lib.hid (decv_take_add s.data.toList i n (by rw [HL.out]; exact hin))
      rw [HEL.out] at hS1
      rw [HES.out] at hS1
      have hR1 := hR.ext hB1
      have hBr1 := ext_trans hBr hB1
      clear HEL HES hR hBr hlt1
      generalize (s.data.toList.drop i).take n = C at *
      generalize wr.heap.size = bc at *
      go_wp2
      go_loop [6, 7, 36] (fun pv bv kv => ∃ k p bs : Nat, k ≤ n ∧ kv = .int .i64 k ∧ pv = .int .u64 p ∧ bv = .int .u64 bs ∧ p < bs ∧ bs ≤ 1000000000 ∧ Hid (bs = 10 ^ k) ∧ Hid (p = decv (C.take k))) (fun _ _ kv => n - (intOf kv).toNat)
      case atStart => exact ⟨0, 0, 1, by omega, rfl, rfl, rfl, by omega, by omega, Lib.hid rfl, Lib.hid rfl⟩
      case round =>
        obtain ⟨k, p, bs, hk, rfl, rfl, rfl, hpb, hbs, HBS, HP⟩ := hrel
        by_cases hkn : k < n
        · have hkC : k < C.length := by have := HC.out; omega
          obtain ⟨_, _, hq, e0⟩ := sl_addr hS1 (bcells_get _ _ hkC)
          cases hq
          rw [Nat.zero_add] at e0
          have hc := HCd.out C[k] (List.getElem_mem hkC)
          have HT : Hid (decv (C.take (k + 1)) = p * 10 + digv C[k]) := by
            have : decv (C.take (k + 1)) = p * 10 + digv C[k] := by rw [List.take_succ_eq_append_getElem hkC, decv_snoc, HP.out]
            exact this
          have HBS2 : Hid (bs * 10 = 10 ^ (k + 1)) := by
            have : bs * 10 = 10 ^ (k + 1) := by rw [HBS.out, Nat.pow_succ]
            exact this
          have hb8 : bs ≤ 100000000 := by
            rw [HBS.out]
            have := Nat.pow_le_pow_right (show 0 < 10 by decide) (show k ≤ 8 by omega)
            simpa using this
          have HDV : Hid (digv C[k] = C[k].toNat - 48) := Lib.hid rfl
          generalize digv C[k] = dg at *
          generalize C[k].toNat = c0 at *
          obtain ⟨hc1, hc2⟩ := hc
          have hdg : dg = c0 - 48 := HDV.out
          have hdgI : (c0 : Int) - 48 = (dg : Int) := by omega
          have hdg9 : dg ≤ 9 := by omega
          clear hdg HDV
          go_wp2
          go_round
          case rel => exact ⟨k + 1, p * 10 + dg, bs * 10, by omega, by go_num, by go_num, by go_num, by omega, by omega, HBS2, Lib.hid HT.out.symm⟩
          case measure => simp [intOf]; omega
        · obtain rfl : k = n := by omega
          have HP2 : Hid (p = decv C) := by have := HP.out; rw [List.take_of_length_le (by rw [HC.out]; exact Nat.le_refl _)] at this; exact this
          have HZ : Hid (val (out.take 0) + B ^ 0 * p = val (out.take 0) * bs + p) := by
            have : val (out.take 0) + B ^ 0 * p = val (out.take 0) * bs + p := by simp [val]
            exact this
          clear HP hS1
          go_wp2
          go_loopw [10, 55] (fun cv qv wr => ∃ (q cr : Nat) (S : List Nat), q ≤ out.length ∧ qv = .int .i64 q ∧ cv = .int .u64 cr ∧ cr ≤ 1000000000 ∧ Hid (S.length = out.length) ∧ Hid (Dg S) ∧ Hid (S.drop q = out.drop q) ∧ Hid (val (S.take q) + B ^ q * cr = val (out.take q) * bs + p) ∧ RowC wr b S cap ∧ Below w.heap.size w wr) (fun _ qv _ => out.length - (intOf qv).toNat)
          case atStart => exact ⟨0, p, out, by omega, rfl, rfl, by omega, Lib.hid rfl, HDo, Lib.hid rfl, HZ, hR1, hBr1⟩
          case round =>
            clear HZ hR1 hBr1
            obtain ⟨q, cr, S, hq, rfl, rfl, hcr, HSl, HSd, HSr, HI2, hR2, hBr2⟩ := hrel
            by_cases hlq : q < out.length
            · have hqS : q < S.length := by have := HSl.out; omega
              have o0 := hR2.own.cell hqS
              have o1 := hR2.own.frozen q
              obtain ⟨hXe, hSr2⟩ := drop_get HSr.out hqS hlq
              have hX := HDo.out.get hlq
              have hV1 := val_take_succ out q hlq
              rw [hXe] at o0
              have HSr2 : ∀ z, Hid ((S.set q z).drop (q + 1) = out.drop (q + 1)) := fun z => by
                have : (S.set q z).drop (q + 1) = out.drop (q + 1) := by rw [List.drop_set_of_lt (by omega)]; exact hSr2
                exact this
              generalize out[q] = X at *
              rw [B_eq] at hX
              have hm1 : (X : Int) * (bs : Int) ≤ 4294967295000000000 ∧ 0 ≤ (X : Int) * (bs : Int) := by
                have h : X * bs ≤ 4294967295 * 1000000000 := Nat.mul_le_mul (by omega) hbs
                have h2 : ((X * bs : Nat) : Int) = (X : Int) * (bs : Int) := Int.natCast_mul _ _
                omega
              obtain ⟨hm2, hm3⟩ := hm1
              have HM := Lib.hid (Int.natCast_mul X bs)
              have HR := Lib.hid (read_step (o := X) HI2.out)
              rw [← val_take_set S q _ hqS, ← hV1, ← Nat.pow_succ] at HR
              have HD3 := HSr2 ((cr + X * bs) % 4294967296)
              clear HSr2 hSr2 hXe hV1 HI2
              go_wp2
              go_roundw
              case rel => exact ⟨q + 1, (cr + X * bs) / 4294967296, S.set q ((cr + X * bs) % 4294967296), by omega, by go_num, by rw [← HM.out]; go_num, by have := HM.out; omega, Hid.len_set HSl _ _, Hid.dg_set HSd _ (Nat.mod_lt _ B_pos), HD3, HR, hR2.set' hqS _ (by rw [← HM.out]; omega), hBr2.setCell hb _⟩
              case measure => simp [intOf]; omega
            · obtain rfl : q = out.length := by omega
              have HV2 : Hid (val S + B ^ S.length * cr = decv (s.data.toList.take (i + k))) := by
                have h1 := HI2.out
                rw [List.take_of_length_le (by rw [HSl.out]; exact Nat.le_refl _), List.take_length, HV.out, HBS.out, HP2.out, ← HCV.out, ← HSl.out] at h1
                exact h1
              have hSl : S.length = out.length := HSl.out
              rw [← hSl] at hoi hoc ⊢
              have HHR := Lib.hid hR2
              clear hSl hlq hq HI2 HSr HSl HDo HV HCV HP2 HBS HC HCd
              by_cases hc0 : 0 < cr
              · have hrow := hR2.row (base := w.heap.size) hb hoc (by unfold maxLen; exact hcap)
                have hrow2 := hrow.alloc (Obj.cells (wcs [cr]).toArray 116)
                have hsl := (Own.new wr [cr]).sl (c := 1) (by simp) (by decide)
                have hgb : Below w.heap.size w (wr.alloc (Obj.cells (wcs [cr]).toArray 116)) := ext_trans hBr2 (by go_grown)
                have hc0B : ((cr : Int) > 0) := by omega
                go_wp2_with (at_builtin; refine wpList_append_sl rfl _ _ 49 rfl w.heap.size 116 Tryz.underlying49 HB.out rfl (by decide) rfl hrow2 rfl hsl ?c1 (wcs_one _) ?c2 ?c3 ?c4 ?_; rotate_left 4; intro v2 w2 hown2 hg2 hv2)
                case c1 => rfl
                case c2 => simp; unfold maxLen; omega
                case c3 => simp; omega
                case c4 => simp; have := hBr2.size; omega
                have hb2 : Below w.heap.size w w2 := Below.grown hgb hg2 hgb.size (fun k e => by cases e; exact hb)
                have ew : wcs S ++ wcs [cr] = wcs (S ++ [cr]) := by simp [wcs]
                rw [ew] at hown2
                obtain ⟨g, cap2, rfl, h1, h2, h3, h4⟩ := RowC.ofRow hown2 (fun e => by have := hv2.1 e; simp at this)
                have HV3 : Hid (val (S ++ [cr]) = decv (s.data.toList.take (i + k))) := by
                  have h1 := HV2.out
                  have : val (S ++ [cr]) = decv (s.data.toList.take (i + k)) := by rw [val_append]; simpa [val] using h1
                  exact this
                have HD3 : Hid (Dg (S ++ [cr])) := HSd.out.append (Dg.cons.2 ⟨by rw [B_eq]; omega, Dg.nil⟩)
                have HLL : Hid ((S ++ [cr]).length = S.length + 1) := by have : (S ++ [cr]).length = S.length + 1 := by simp
                                                                         exact this
                clear hrow hrow2 hsl hgb ew hown2 hg2 hv2 HHR hR2
                unfold maxLen at h3
                go_wp2
                go_roundw
                case rel => exact ⟨i + k, S ++ [cr], g, cap2, by omega, by go_num, by rw [HLL.out]; rfl, h1, by rw [HLL.out]; omega, by rw [HLL.out]; exact h2, h3, HD3, HV3, h4, hb2⟩
                case measure => simp [intOf]; omega
              · obtain rfl : cr = 0 := by omega
                have HV3 : Hid (val S = decv (s.data.toList.take (i + k))) := by
                  have h1 := HV2.out
                  rw [Nat.mul_zero, Nat.add_zero] at h1
                  exact h1
                clear HV2
                go_wp2
                go_roundw
                case rel => exact ⟨i + k, S, b, cap, by omega, by go_num, rfl, hb, by omega, hoc, hcap, HSd, HV3, HHR.out, hBr2⟩
                case measure => simp [intOf]; omega
    · obtain rfl : i = s.size := by omega
      have HV2 : Hid (val out = decv s.data.toList) := by
        have := HV.out
        rw [List.take_of_length_le (by rw [HL.out]; exact Nat.le_refl _)] at this
        exact this
      clear HV
      go_wp2_with fail
      have hT := trim_at out HDo.out _ _ (hR.own.sl (c := cap) hoc (by unfold maxLen; exact hcap))
      rw [HV2.out] at hT
      refine Calls.mono hT ?_
      rintro e w' ⟨v, rfl, hv, rfl⟩
      clear hT
      go_wp2
      go_ret
      exact ⟨_, rfl, hv, hBr⟩
end Nm
end Go.Proofs.YtlbnjgnbpiidaaaGreatDoor
namespace Go.Proofs.YtlbnjgnbpiidaaaGreatDoor
open Go.RowKit
namespace Nm
/-- a minus at the front -/
def cutB (l : List UInt8) : Bool := match l with | c :: _ => decide (c = 45) | [] => false
def cutL (l : List UInt8) : List UInt8 := if cutB l then l.drop 1 else l
theorem cut_first (s : ByteArray) (h : 1 ≤ s.size) : ((s.extract 0 1).toList == [45]) = cutB s.data.toList := by
  rw [ByteArray.toList_eq]
  have e : (s.extract 0 1).data.toList = s.data.toList.take 1 := by simp
  rw [e]
  have hl : s.data.toList.length = s.size := Array.length_toList
  cases hq : s.data.toList with
  | nil => rw [hq] at hl; simp at hl; omega
  | cons c r => simp only [List.take_succ_cons, List.take_zero, cutB]; rw [Bool.eq_iff_iff]; simp
theorem cut_none (s : ByteArray) (h : s.size < 1) : false = cutB s.data.toList := by
  have hl : s.data.toList.length = s.size := Array.length_toList
  have : s.data.toList = [] := List.eq_nil_of_length_eq_zero (by omega)
  rw [this]; rfl
set_option maxHeartbeats 2000000 in
theorem hasPrefix_at (s : ByteArray) (hs : s.size ≤ maxLen) (w : World) : Calls Tryz.prog 124 #[.string s, .string ⟨#[45]⟩] w fun e w' => e = .returned (.bool (cutB s.data.toList)) ∧ w = w' := by
  unfold maxLen at hs
  by_cases h1 : 1 ≤ s.size
  · have HC := Lib.hid (cut_first s h1)
    go_enter Tryz.func124, Tryz.ntmps124
    go_wp2
    go_ret
    exact ⟨congrArg (fun b => Ending.returned (.bool b)) HC.out, rfl⟩
  · have HC := Lib.hid (cut_none s (by omega))
    go_enter Tryz.func124, Tryz.ntmps124
    go_wp2
    go_ret
    exact ⟨congrArg (fun b => Ending.returned (.bool b)) HC.out, rfl⟩
def cutS (s : ByteArray) : ByteArray := if cutB s.data.toList then s.extract 1 s.size else s
theorem cutS_list (s : ByteArray) : (cutS s).data.toList = cutL s.data.toList := by
  unfold cutS cutL
  by_cases h : cutB s.data.toList = true
  · rw [if_pos h, if_pos h]
    have hl : s.data.toList.length = s.size := Array.length_toList
    simp only [ByteArray.data_extract, Array.toList_extract]
    rw [List.extract_eq_take_drop, List.take_of_length_le (by rw [List.length_drop]; omega)]
  · rw [if_neg h, if_neg h]
theorem cutS_size (s : ByteArray) : (cutS s).size ≤ s.size := by
  unfold cutS; split
  · simp
  · exact Nat.le_refl _
def CutPost (w : World) (s : ByteArray) (e : Ending) (w' : World) : Prop := e = .returned (.tuple #[.string (cutS s), .bool (cutB s.data.toList)]) ∧ w = w'
set_option maxHeartbeats 2000000 in
theorem liteCut_at (s : ByteArray) (hs : s.size ≤ maxLen) (w : World) : Calls Tryz.prog 158 #[.string s, .string ⟨#[45]⟩] w (CutPost w s) := by
  have hs' := hs
  unfold maxLen at hs'
  by_cases h : cutB s.data.toList = true
  · have h1 : 1 ≤ s.size := by
      rcases Nat.lt_or_ge s.size 1 with h2 | h2
      · have := cut_none s h2; rw [h] at this; cases this
      · exact h2
    have HE : Hid (s.extract 1 s.size = cutS s) := by
      have : s.extract 1 s.size = cutS s := by unfold cutS; rw [if_pos h]
      exact this
    have HH := Lib.hid h
    go_enter Tryz.func158, Tryz.ntmps158
    go_wp2_with fail
    refine (hasPrefix_at s hs w).mono ?_
    rw [h]
    rintro e w' ⟨rfl, rfl⟩
    clear h
    go_wp2
    go_ret2
    refine ⟨?_, rfl⟩
    rw [HH.out, ← HE.out]; rfl
  · have hf : cutB s.data.toList = false := by simpa using h
    have HE : Hid (s = cutS s) := by
      have : s = cutS s := by unfold cutS; rw [if_neg h]
      exact this
    have HH := Lib.hid hf
    go_enter Tryz.func158, Tryz.ntmps158
    go_wp2_with fail
    refine (hasPrefix_at s hs w).mono ?_
    rw [hf]
    rintro e w' ⟨rfl, rfl⟩
    clear h hf
    go_wp2
    go_ret2
    refine ⟨?_, rfl⟩
    rw [HH.out, ← HE.out]; rfl
theorem cutPrefix_at (s : ByteArray) (hs : s.size ≤ maxLen) (w : World) : Calls Tryz.prog 144 #[.string s, .string ⟨#[45]⟩] w (CutPost w s) := by
  go_enter Tryz.func144, Tryz.ntmps144
  go_wp2_with fail
  refine (liteCut_at s hs w).mono ?_
  rintro e w' ⟨rfl, rfl⟩
  go_wp2
  go_ret2
  exact ⟨rfl, rfl⟩
/-- the fault of a ratio -/
def badR (m d : ByteArray) (b : Bool) : Bool := !wholeB m.data.toList || (b && (m.toList == [48])) || !wholeB d.data.toList || (d.toList == [48])
def largeR (m d : ByteArray) : Prop := 4000 < m.size ∨ 4000 < d.size
instance (m d : ByteArray) : Decidable (largeR m d) := by unfold largeR; exact inferInstance
def rF (n d : ByteArray) : Int := if badR (cutS n) d (cutB n.data.toList) = true then 3 else if largeR (cutS n) d then 2 else if Nat.gcd (decv (cutS n).data.toList) (decv d.data.toList) ≠ 1 then 3 else 0
def rQ (n d : ByteArray) : Rat := mkRat (sgn (cutB n.data.toList) (decv (cutS n).data.toList)) (decv d.data.toList)
def OfPost (w : World) (n d : ByteArray) (e : Ending) (w' : World) : Prop := ∃ v, e = .returned (.tuple #[v, .int .i64 (rF n d)]) ∧ (rF n d = 0 → XR w' v (rQ n d)) ∧ (rF n d ≠ 0 → v = .agg zeroX) ∧ Below w.heap.size w w'
theorem digs_of {l : List UInt8} (h : digsB l = true) : Digs l := by
  intro c hc
  have := List.all_eq_true.1 h c hc
  unfold digC digN at this
  have := of_decide_eq_true this
  omega
theorem whole_whl {l : List UInt8} (h : wholeB l = true) : Whl l := by
  unfold wholeB at h
  simp only [Bool.and_eq_true, Bool.not_eq_true'] at h
  obtain ⟨⟨h1, h2⟩, h3⟩ := h
  refine ⟨digs_of h3, ?_⟩
  cases l with
  | nil => simp at h1
  | cons c r =>
    refine ⟨c, r, rfl, fun hr hc => ?_⟩
    have hlen : 1 < (c :: r).length := by have := List.length_pos_iff.2 hr; simp; omega
    simp only [zeroAt, hlen, decide_true, Bool.true_and] at h2
    have := of_decide_eq_false h2
    omega
theorem whl_whole {l : List UInt8} (h : Whl l) : wholeB l = true := by
  obtain ⟨hd, c, r, rfl, hc⟩ := h
  unfold wholeB
  have h3 : digsB (c :: r) = true := List.all_eq_true.2 (fun x hx => by unfold digC digN; have := hd x hx; exact decide_eq_true (by omega))
  rw [h3]
  simp only [List.isEmpty_cons, Bool.not_false, Bool.true_and, Bool.and_true, Bool.not_eq_true']
  by_cases hr : r = []
  · subst hr; simp
  · have := hc hr
    simp only [zeroAt]
    rw [decide_eq_false (p := ((c.toNat : Int) = 48)) (by omega)]; simp
theorem one_of_zero {l : List UInt8} (h : Whl l) (h0 : decv l = 0) : l = [48] := by
  rw [whl_eq 0 l h h0, decS_small (by decide)]; rfl
theorem rQ_facts {n d : ByteArray} (h : rF n d = 0) : decv d.data.toList ≠ 0 ∧ (rQ n d).num = sgn (cutB n.data.toList) (decv (cutS n).data.toList) ∧ (rQ n d).den = decv d.data.toList ∧ wholeB (cutS n).data.toList = true ∧ wholeB d.data.toList = true ∧ (cutS n).size ≤ 4000 ∧ d.size ≤ 4000 ∧ decide ((rQ n d).num < 0) = cutB n.data.toList := by
  unfold rF at h
  by_cases hb : badR (cutS n) d (cutB n.data.toList) = true
  · rw [if_pos hb] at h; cases h
  · rw [if_neg hb] at h
    by_cases hl : largeR (cutS n) d
    · rw [if_pos hl] at h; cases h
    · rw [if_neg hl] at h
      by_cases hg : Nat.gcd (decv (cutS n).data.toList) (decv d.data.toList) ≠ 1
      · rw [if_pos hg] at h; cases h
      · have hb' : badR (cutS n) d (cutB n.data.toList) = false := by simpa using hb
        unfold badR at hb'
        simp only [Bool.or_eq_false_iff, Bool.not_eq_false'] at hb'
        obtain ⟨⟨⟨h1, h2⟩, h3⟩, h4⟩ := hb'
        have hg1 : Nat.gcd (decv (cutS n).data.toList) (decv d.data.toList) = 1 := by omega
        have hd0 : decv d.data.toList ≠ 0 := by
          intro h0
          have := one_of_zero (whole_whl h3) h0
          rw [ByteArray.toList_eq, this] at h4
          simp at h4
        have hq : rQ n d = Rat.normalize (sgn (cutB n.data.toList) (decv (cutS n).data.toList)) (decv d.data.toList) hd0 := by
          unfold rQ mkRat; rw [dif_neg hd0]
        have hn := norm_num (cutB n.data.toList) (decv (cutS n).data.toList) (decv d.data.toList) hd0
        have hn2 := norm_den (cutB n.data.toList) (decv (cutS n).data.toList) (decv d.data.toList) hd0
        rw [hg1, Nat.div_one] at hn hn2
        unfold largeR at hl
        refine ⟨hd0, by rw [hq]; exact hn, by rw [hq]; exact hn2, h1, h3, by omega, by omega, ?_⟩
        rw [hq, hn]
        cases hcb : cutB n.data.toList
        · simp [sgn]
        · rw [hcb] at h2
          have h5 : decv (cutS n).data.toList ≠ 0 := by
            intro h0
            have := one_of_zero (whole_whl h1) h0
            rw [ByteArray.toList_eq, this] at h2
            simp at h2
          simp [sgn]; omega
end Nm
end Go.Proofs.YtlbnjgnbpiidaaaGreatDoor
