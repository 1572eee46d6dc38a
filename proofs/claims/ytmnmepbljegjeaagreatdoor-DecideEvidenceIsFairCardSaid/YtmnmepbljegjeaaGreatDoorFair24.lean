/- readNatural of the reference: the number that decimal digits say. number of the reference's ratios: a whole number's numeral. TrimPrefix of package strings at "-"; long, whole and readMiss of package decide. -/
import Derived.Test.YtmnmepbljegjeaaGreatDoorFair23
import Derived.Test.YtmnmepbljegjeaaGreatDoorFair12
import Derived.Test.YtmnmepbljegjeaaGreatDoorFair13
namespace Go.Proofs.YtmnmepbljegjeaaGreatDoor
open Go.RowKit
namespace Nt
open _root_.Go.Proofs.YtmnmepbljegjeaaGreatDoor.Nm (decS decv Digs Whl dch digv whl_eq decS_whl decS_digs decv_decS decS_ne decS_length decv_append decS_small decS_big decv_snoc decv_lt)
theorem ext_list (s : ByteArray) (i n : Nat) : (s.extract i (i + n)).data.toList = (s.data.toList.drop i).take n := by
  simp only [ByteArray.data_extract, Array.toList_extract]
  rw [List.extract_eq_take_drop]; congr 1; omega
theorem ext_zero (s : ByteArray) (n : Nat) : (s.extract 0 n).data.toList = s.data.toList.take n := by
  have := ext_list s 0 n
  rw [Nat.zero_add, List.drop_zero] at this; exact this
theorem decFrom_eq (l : List UInt8) (h : Digs l) : ∀ a, Lib.decFrom a l = some (l.foldl (fun a c => a * 10 + digv c) a) := by
  induction l with
  | nil => intro a; rfl
  | cons c l ih =>
    intro a
    have hc := h c (by simp)
    unfold Lib.decFrom Lib.digitVal
    rw [if_pos hc]
    simp only [List.foldl_cons]
    exact ih (fun d hd => h d (by simp [hd])) _
theorem atoi_digs (l : List UInt8) (h : Digs l) (hn : l ≠ []) : Lib.atoi l = some ((decv l : Nat) : Int) := by
  cases l with
  | nil => exact absurd rfl hn
  | cons c r =>
    have hc := h c (by simp)
    unfold Lib.atoi
    have h1 : (c == 45) = false := by
      rw [beq_eq_false_iff_ne]; intro e; rw [e] at hc; simp at hc
    have h2 : (c == 43) = false := by
      rw [beq_eq_false_iff_ne]; intro e; rw [e] at hc; simp at hc
    simp only [h1, h2, Bool.false_eq_true, if_false]
    unfold Lib.decNat
    simp only [List.isEmpty_cons, Bool.false_eq_true, if_false]
    rw [decFrom_eq _ h]; rfl
def APost (w : World) (n : Nat) (e : Ending) (w' : World) : Prop := e = .returned (.tuple #[.int .i64 (n : Int), .nilIface]) ∧ Below w.heap.size w w'
theorem atoi_at (s : ByteArray) (h : Digs s.data.toList) (h0 : 0 < s.size) (hl : s.size ≤ 18) (w : World) : Calls Tryz.prog 146 #[.string s] w (APost w (decv s.data.toList)) := by
  have hne : s.data.toList ≠ [] := by
    intro e
    have : s.data.toList.length = s.size := Array.length_toList
    rw [e] at this; simp at this; omega
  refine (Tryz.strconv_Atoi s _ hl (atoi_digs _ h hne) w).mono ?_
  rintro e w' ⟨rfl, t, rfl⟩
  refine ⟨rfl, ?_, ?_, ?_, ?_, ?_⟩
  · simp [Lib.bytesWorld, World.freeze]; rfl
  · simp [Lib.bytesWorld, World.freeze]
  · simp [Lib.bytesWorld, World.freeze]; rfl
  · rw [Lib.bytesWorld_size]; omega
  · exact fun k hk => Lib.bytesWorld_at_old _ _ _ _ hk
theorem read_more {l : List Nat} {r : List UInt8} {S t : Nat} (h : val l + B ^ l.length * decv r = S) (ht : t ≤ r.length) (h9 : r.length - t = 9 ∨ t = 0) : val (l ++ [decv (r.drop t)]) + B ^ (l ++ [decv (r.drop t)]).length * decv (r.take t) = S := by
  have e : decv r = decv (r.take t) * 10 ^ (r.length - t) + decv (r.drop t) := by
    conv => lhs; rw [← List.take_append_drop t r]
    rw [decv_append, List.length_drop]
  rw [val_append, List.length_append, List.length_singleton, Nat.pow_succ, ← h, e]
  rcases h9 with h9 | h9
  · rw [h9]
    simp only [val, Nat.mul_zero, Nat.add_zero]
    rw [Nat.mul_add, show (10 : Nat) ^ 9 = B from rfl]
    have : B ^ l.length * B * decv (r.take t) = B ^ l.length * (decv (r.take t) * B) := by rw [Nat.mul_assoc, Nat.mul_comm B]
    omega
  · subst h9
    have : decv ([] : List UInt8) = 0 := rfl
    simp [val, this]
def strN : Value → Nat
  | .string r => r.size
  | _ => 0
theorem strN_s (r : ByteArray) : strN (.string r) = r.size := rfl
set_option maxRecDepth 100000 in
set_option maxHeartbeats 4000000 in
theorem readNatural_at (s : ByteArray) (hs : Digs s.data.toList) (hsl : s.size ≤ 1000000000) (w : World) : Calls Tryz.prog 79 #[.string s] w (NPost w (decv s.data.toList)) := by
  have HS := Lib.hid hs
  have HZ : Hid (val [] + B ^ ([] : List Nat).length * decv s.data.toList = decv s.data.toList) := by
    have : val [] + B ^ ([] : List Nat).length * decv s.data.toList = decv s.data.toList := by simp [val]
    exact this
  clear hs
  go_enter Tryz.func79, Tryz.ntmps79
  go_wp2
  go_loopw [0, 3] (fun sv ov wr => ∃ (r : ByteArray) (l : List Nat), sv = .string r ∧ l.length + r.size ≤ s.size ∧ Hid (Digs r.data.toList) ∧ Hid (Dg l) ∧ Hid (val l + B ^ l.length * decv r.data.toList = decv s.data.toList) ∧ Row wr w.heap.size ov l ∧ Below w.heap.size w wr) (fun sv _ _ => strN sv)
  case atStart => exact ⟨s, [], rfl, by simp, HS, Dg.nil, HZ, Row.nil _ _, Below.refl _ _⟩
  case round =>
    clear HZ
    obtain ⟨r, l, rfl, hlen, HR, HD, HV, hrow, hb⟩ := hrel
    have hle := hb.size
    have hrl : r.data.toList.length = r.size := Array.length_toList
    have HRL := Lib.hid hrl
    have hll : l.length ≤ 10000000000 := by omega
    clear hrl
    by_cases h0 : 0 < r.size
    · by_cases h9 : 9 ≤ r.size
      · obtain ⟨t, ht⟩ : ∃ t, r.size = t + 9 := ⟨r.size - 9, by omega⟩
        have HTS := Lib.hid ht
        have hge : (0 : Int) ≤ (r.size : Int) - 9 := by omega
        have htI : (r.size : Int) - 9 = (t : Int) := by omega
        clear ht
        have HCH : Hid ((r.extract t r.size).data.toList = r.data.toList.drop t) := by
          have hht := HTS.out
          have : (r.extract t r.size).data.toList = r.data.toList.drop t := by
            have h1 := ext_list r t (r.size - t)
            rw [show t + (r.size - t) = r.size by omega] at h1
            rw [h1, List.take_of_length_le (by rw [List.length_drop, HRL.out]; omega)]
          exact this
        have hcs : (r.extract t r.size).size = r.size - t := by rw [ByteArray.size_extract]; omega
        have hcs9 : r.size - t = 9 := by have := HTS.out; omega
        have HDT : Hid (Digs (r.extract t r.size).data.toList) := by
          have : Digs (r.extract t r.size).data.toList := by rw [HCH.out]; exact HR.out.drop _
          exact this
        have HDR : Hid (Digs (r.extract 0 t).data.toList) := by
          have : Digs (r.extract 0 t).data.toList := by rw [ext_zero]; exact HR.out.take _
          exact this
        have hc18 : 0 < (r.extract t r.size).size ∧ (r.extract t r.size).size ≤ 9 := by omega
        have HC18 := Lib.hid hc18
        have HV2 : Hid (val (l ++ [decv (r.extract t r.size).data.toList]) + B ^ (l ++ [decv (r.extract t r.size).data.toList]).length * decv (r.extract 0 t).data.toList = decv s.data.toList) := by
          have : val (l ++ [decv (r.extract t r.size).data.toList]) + B ^ (l ++ [decv (r.extract t r.size).data.toList]).length * decv (r.extract 0 t).data.toList = decv s.data.toList := by
            rw [HCH.out, ext_zero]
            exact read_more HV.out (by rw [HRL.out]; have := HTS.out; omega) (by rw [HRL.out]; have := HTS.out; omega)
          exact this
        have hcB : decv (r.extract t r.size).data.toList < 1000000000 := by
          have h1 := decv_lt HDT.out
          have h2 : (r.extract t r.size).data.toList.length = (r.extract t r.size).size := Array.length_toList
          have h3 : 10 ^ (r.extract t r.size).data.toList.length ≤ 10 ^ 9 := Nat.pow_le_pow_right (by decide) (by omega)
          omega
        have HD2 : Hid (Dg (l ++ [decv (r.extract t r.size).data.toList])) := by
          have : Dg (l ++ [decv (r.extract t r.size).data.toList]) := HD.out.append (Dg.cons.2 ⟨hcB, Dg.nil⟩)
          exact this
        have hl2 : (l ++ [decv (r.extract t r.size).data.toList]).length + (r.extract 0 t).size ≤ s.size := by
          rw [List.length_append, List.length_singleton, ByteArray.size_extract]; have := HTS.out; omega
        have HL2 := Lib.hid hl2
        have hsm : (r.extract 0 t).size < r.size := by rw [ByteArray.size_extract]; have := HTS.out; omega
        have HSM := Lib.hid hsm
        clear hc18 hcs hl2 hsm hcs9
        go_wp2_with fail
        refine (atoi_at (r.extract t r.size) HDT.out HC18.out.1 (by have := HC18.out.2; omega) wr).mono ?_
        rintro e w2 ⟨rfl, hb2⟩
        have hrow2 := hrow.ext hb2
        have hbw2 := ext_trans hb hb2
        have hle2 := hbw2.size
        clear hrow hb hb2
        generalize decv (r.extract t r.size).data.toList = C at *
        go_wp2_with (at_builtin; refine wpList_append_wd rfl _ _ rfl w.heap.size rfl hrow2 C rfl rfl hll hle2 ?_; intro v' w' hr' hb')
        go_roundw
        case rel => exact ⟨r.extract 0 t, _, rfl, HL2.out, HDR, HD2, HV2, hr', hbw2.trans hb'⟩
        case measure =>
          rw [strN_s, strN_s]
          exact HSM.out
      · have hmx : max ((r.size : Int) - 9) 0 = 0 := by omega
        have hc18 : 0 < r.size ∧ r.size ≤ 9 := by omega
        have HC18 := Lib.hid hc18
        have HV2 : Hid (val (l ++ [decv r.data.toList]) + B ^ (l ++ [decv r.data.toList]).length * 0 = decv s.data.toList) := by
          have : val (l ++ [decv r.data.toList]) + B ^ (l ++ [decv r.data.toList]).length * 0 = decv s.data.toList := by
            rw [← HV.out, val_append]; simp [val]
          exact this
        have hcB : decv r.data.toList < 1000000000 := by
          have h1 := decv_lt HR.out
          have h3 : 10 ^ r.data.toList.length ≤ 10 ^ 9 := Nat.pow_le_pow_right (by decide) (by rw [HRL.out]; omega)
          omega
        have HD2 : Hid (Dg (l ++ [decv r.data.toList])) := by
          have : Dg (l ++ [decv r.data.toList]) := HD.out.append (Dg.cons.2 ⟨hcB, Dg.nil⟩)
          exact this
        have HL2 : Hid ((l ++ [decv r.data.toList]).length ≤ s.size) := by
          have : (l ++ [decv r.data.toList]).length ≤ s.size := by rw [List.length_append, List.length_singleton]; omega
          exact this
        clear hc18
        go_wp2_with fail
        refine (atoi_at r HR.out HC18.out.1 (by have := HC18.out.2; omega) wr).mono ?_
        rintro e w2 ⟨rfl, hb2⟩
        have hrow2 := hrow.ext hb2
        have hbw2 := ext_trans hb hb2
        have hle2 := hbw2.size
        clear hrow hb hb2
        generalize decv r.data.toList = C at *
        go_wp2_with (at_builtin; refine wpList_append_wd rfl _ _ rfl w.heap.size rfl hrow2 C rfl rfl hll hle2 ?_; intro v' w' hr' hb')
        clear hmx
        go_roundw
        case rel => exact ⟨ByteArray.empty, _, rfl, HL2.out, (fun c hc => by cases hc), HD2, HV2, hr', hbw2.trans hb'⟩
        case measure =>
          rw [strN_s, strN_s]
          exact HC18.out.1
    · have HF : Hid (val l = decv s.data.toList) := by
        have h1 := HV.out
        have h2 : r.data.toList = [] := List.eq_nil_of_length_eq_zero (by rw [HRL.out]; omega)
        rw [h2] at h1
        have : val l = decv s.data.toList := by rw [← h1]; simp [decv]
        exact this
      have hT := trim_at l HD.out _ _ hrow.sl
      rw [HF.out] at hT
      go_wp2_with fail
      refine Calls.mono hT ?_
      rintro e w' ⟨v, rfl, hv, rfl⟩
      clear hT
      go_wp2
      go_ret
      exact ⟨_, rfl, hv, hb⟩
end Nt
end Go.Proofs.YtmnmepbljegjeaaGreatDoor
namespace Go.Proofs.YtmnmepbljegjeaaGreatDoor
open Go.RowKit
namespace Nt
theorem str_zero {s : ByteArray} (h : s.size = 1) (h0 : 0 < s.size) (h1 : (s[0].toNat : Int) = 48) : s.toList = [48] := by
  rw [ByteArray.toList_eq]
  have hl : s.data.toList.length = 1 := by rw [← h]; exact Array.length_toList
  obtain ⟨c, hc⟩ := List.length_eq_one_iff.1 hl
  have e : s[0] = c := by
    have : s.data.toList[0]'(by omega) = c := by simp [hc]
    rw [← this]; rfl
  rw [hc]
  have : c = 48 := by rw [← e]; apply UInt8.toNat_inj.1; have h48 : (48 : UInt8).toNat = 48 := rfl; omega
  rw [this]
theorem str_one {s : ByteArray} (h : s.toList = [48]) : s.size = 1 := by
  rw [ByteArray.toList_eq] at h
  have hl : s.data.toList.length = s.size := Array.length_toList
  rw [h] at hl; exact hl.symm
set_option maxHeartbeats 4000000 in
theorem number_at (s : ByteArray) (hs : s.size ≤ maxLen) (w : World) : Calls Tryz.prog 77 #[.string s] w fun e w' => e = .returned (.bool (wholeB s.data.toList)) ∧ w = w' := by
  unfold maxLen at hs
  by_cases h0 : 0 < s.size
  · have hem : s.toList.isEmpty = false := by
      rw [ByteArray.toList_eq]
      cases hq : s.data.toList with
      | nil => have hl : s.data.toList.length = s.size := Array.length_toList
               rw [hq] at hl; simp at hl; omega
      | cons _ _ => rfl
    have hem' : s.data.toList.isEmpty = false := by rw [← ByteArray.toList_eq]; exact hem
    have HW : Hid (wholeB s.data.toList = (!(decide (1 < s.size) && decide ((s[0].toNat : Int) = 48)) && digsB s.data.toList)) := by
      have : wholeB s.data.toList = (!(decide (1 < s.size) && decide ((s[0].toNat : Int) = 48)) && digsB s.data.toList) := by
        unfold wholeB; rw [hem', zeroAt_of s h0, show s.data.toList.length = s.size from Array.length_toList]; simp
      exact this
    have hem2 : (s.toList == []) = false := by
      rw [beq_eq_false_iff_ne]; intro h; rw [h] at hem; cases hem
    have hem3 : ¬ (s.toList = []) := fun h => by rw [h] at hem; cases hem
    clear hem'
    generalize wholeB s.data.toList = N at *
    by_cases h2 : (s[0].toNat : Int) = 48
    · by_cases h1 : 1 < s.size
      · have HF : Hid (N = false) := by have := HW.out; rw [decide_eq_true h1, decide_eq_true h2] at this; exact this
        have hne : ¬ (s.toList = [48]) := fun h => by have := str_one h; omega
        have hne2 : (s.toList == [48]) = false := by simpa using hne
        have hne3 : (s.toList != [48]) = true := by simpa using hne
        clear HW
        go_enter Tryz.func77, Tryz.ntmps77
        go_wp2
        go_ret
        exact ⟨Dg.ret_bool HF.out.symm, rfl⟩
      · have HF : Hid (N = digsB s.data.toList) := by have := HW.out; rw [decide_eq_false h1] at this; simp at this; exact this
        have hz := str_zero (by omega) h0 h2
        have hne2 : (s.toList == [48]) = true := by rw [hz]; rfl
        have hne3 : (s.toList != [48]) = false := by rw [hz]; rfl
        clear HW hz
        go_enter Tryz.func77, Tryz.ntmps77
        go_wp2
        go_loop [17] (fun i => ∃ k : Nat, k ≤ s.size ∧ i = .int .i64 k ∧ Hid ((s.data.toList.take k).all digC = true)) (fun i => s.size - (intOf i).toNat)
        case atStart => exact ⟨0, by omega, rfl, rfl⟩
        case round =>
          obtain ⟨k, hk, rfl, HA⟩ := hrel
          by_cases hlt : k < s.size
          · by_cases hw : digC s[k] = true
            · have HW := Lib.hid hw
              have hn : 48 ≤ (s[k].toNat : Int) ∧ (s[k].toNat : Int) ≤ 57 := of_decide_eq_true hw
              obtain ⟨hn1, hn2⟩ := hn
              clear hw
              go_wp2
              all_goals go_round
              case rel => exact ⟨k + 1, by omega, by go_num, Dg.all_snoc _ _ _ hlt HA.out HW.out⟩
              case measure => simp [intOf] <;> omega
            · have hw' : digC s[k] = false := by simpa using hw
              have HW : Hid (digsB s.data.toList = false) := Dg.all_not _ _ _ hlt hw'
              have hn : ¬ (48 ≤ (s[k].toNat : Int) ∧ (s[k].toNat : Int) ≤ 57) := of_decide_eq_false hw'
              clear hw hw'
              by_cases h1 : (s[k].toNat : Int) < 48
              · clear hn
                go_wp2
                go_ret
                exact ⟨Dg.ret_bool (by rw [HF.out, HW.out]), rfl⟩
              · have h2 : (57 : Int) < (s[k].toNat : Int) := by omega
                clear hn
                go_wp2
                go_ret
                exact ⟨Dg.ret_bool (by rw [HF.out, HW.out]), rfl⟩
          · have HW : Hid (digsB s.data.toList = true) := Dg.all_end _ _ _ hlt HA.out
            go_wp2
            go_ret
            exact ⟨Dg.ret_bool (by rw [HF.out, HW.out]), rfl⟩
    · have HF : Hid (N = digsB s.data.toList) := by have := HW.out; rw [decide_eq_false h2] at this; simp at this; exact this
      clear HW
      go_enter Tryz.func77, Tryz.ntmps77
      go_wp2
      go_loop [17] (fun i => ∃ k : Nat, k ≤ s.size ∧ i = .int .i64 k ∧ Hid ((s.data.toList.take k).all digC = true)) (fun i => s.size - (intOf i).toNat)
      case atStart => exact ⟨0, by omega, rfl, rfl⟩
      case round =>
        obtain ⟨k, hk, rfl, HA⟩ := hrel
        by_cases hlt : k < s.size
        · by_cases hw : digC s[k] = true
          · have HW := Lib.hid hw
            have hn : 48 ≤ (s[k].toNat : Int) ∧ (s[k].toNat : Int) ≤ 57 := of_decide_eq_true hw
            obtain ⟨hn1, hn2⟩ := hn
            clear hw
            go_wp2
            all_goals go_round
            case rel => exact ⟨k + 1, by omega, by go_num, Dg.all_snoc _ _ _ hlt HA.out HW.out⟩
            case measure => simp [intOf] <;> omega
          · have hw' : digC s[k] = false := by simpa using hw
            have HW : Hid (digsB s.data.toList = false) := Dg.all_not _ _ _ hlt hw'
            have hn : ¬ (48 ≤ (s[k].toNat : Int) ∧ (s[k].toNat : Int) ≤ 57) := of_decide_eq_false hw'
            clear hw hw'
            by_cases h1 : (s[k].toNat : Int) < 48
            · clear hn
              go_wp2
              go_ret
              exact ⟨Dg.ret_bool (by rw [HF.out, HW.out]), rfl⟩
            · have h2 : (57 : Int) < (s[k].toNat : Int) := by omega
              clear hn
              go_wp2
              go_ret
              exact ⟨Dg.ret_bool (by rw [HF.out, HW.out]), rfl⟩
        · have HW : Hid (digsB s.data.toList = true) := Dg.all_end _ _ _ hlt HA.out
          go_wp2
          go_ret
          exact ⟨Dg.ret_bool (by rw [HF.out, HW.out]), rfl⟩
  · have hnil : s.data.toList = [] := List.eq_nil_of_length_eq_zero (by have hl : s.data.toList.length = s.size := Array.length_toList
                                                                        omega)
    have hem : s.toList.isEmpty = true := by rw [ByteArray.toList_eq, hnil]; rfl
    have hem2 : (s.toList == []) = true := by rw [ByteArray.toList_eq, hnil]; rfl
    have hem3 : s.toList = [] := by rw [ByteArray.toList_eq, hnil]
    have HF : Hid (wholeB s.data.toList = false) := by
      have : wholeB s.data.toList = false := by rw [hnil]; rfl
      exact this
    clear hnil
    go_enter Tryz.func77, Tryz.ntmps77
    go_wp2
    go_ret
    exact ⟨Dg.ret_bool HF.out.symm, rfl⟩
end Nt
end Go.Proofs.YtmnmepbljegjeaaGreatDoor
namespace Go.Proofs.YtmnmepbljegjeaaGreatDoor
open Go.RowKit
namespace Nm
theorem miss_small {n d : ByteArray} (h : rF n d = 0) : wlen (rQ n d).num.natAbs ≤ 4000 ∧ wlen (rQ n d).den ≤ 4000 := by
  obtain ⟨_, h2, h3, h4, h5, h6, h7, _⟩ := rQ_facts h
  have e1 : (cutS n).data.toList.length = (cutS n).size := Array.length_toList
  have e2 : d.data.toList.length = d.size := Array.length_toList
  refine ⟨?_, ?_⟩
  · rw [h2, sgn_natAbs]; have := wlen_dec (decv_lt (whole_whl h4).1); omega
  · rw [h3]; have := wlen_dec (decv_lt (whole_whl h5).1); omega
set_option maxHeartbeats 2000000 in
theorem liteTrim_at (s : ByteArray) (hs : s.size ≤ maxLen) (w : World) : Calls Tryz.prog 145 #[.string s, .string ⟨#[45]⟩] w fun e w' => e = .returned (.string (cutS s)) ∧ w = w' := by
  have hs' := hs
  unfold maxLen at hs'
  by_cases h : cutB s.data.toList = true
  · have h1 : 1 ≤ s.size := by
      rcases Nat.lt_or_ge s.size 1 with h2 | h2
      · have := cut_none s h2; rw [h] at this; cases this
      · exact h2
    have HE : Hid (s.extract 1 s.size = cutS s) := by
      have : s.extract 1 s.size = cutS s := by unfold cutS; rw [if_pos h]
      exact this
    go_enter Tryz.func145, Tryz.ntmps145
    go_wp2_with fail
    refine (hasPrefix_at s hs w).mono ?_
    rw [h]
    rintro e w' ⟨rfl, rfl⟩
    clear h
    go_wp2
    go_ret
    refine ⟨?_, rfl⟩
    rw [← HE.out]; rfl
  · have hf : cutB s.data.toList = false := by simpa using h
    have HE : Hid (s = cutS s) := by
      have : s = cutS s := by unfold cutS; rw [if_neg h]
      exact this
    go_enter Tryz.func145, Tryz.ntmps145
    go_wp2_with fail
    refine (hasPrefix_at s hs w).mono ?_
    rw [hf]
    rintro e w' ⟨rfl, rfl⟩
    clear h hf
    go_wp2
    go_ret
    refine ⟨?_, rfl⟩
    rw [← HE.out]; rfl
theorem trimPrefix_at (s : ByteArray) (hs : s.size ≤ maxLen) (w : World) : Calls Tryz.prog 76 #[.string s, .string ⟨#[45]⟩] w fun e w' => e = .returned (.string (cutS s)) ∧ w = w' := by
  go_enter Tryz.func76, Tryz.ntmps76
  go_wp2_with fail
  refine (liteTrim_at s hs w).mono ?_
  rintro e w' ⟨rfl, rfl⟩
  go_wp2
  go_ret
  exact ⟨rfl, rfl⟩
def longB (n d : ByteArray) : Bool := decide (100 < (cutS n).size) || decide (100 < d.size)
def BPost (w : World) (b : Bool) (e : Ending) (w' : World) : Prop := e = .returned (.bool b) ∧ Below w.heap.size w w'
set_option maxHeartbeats 2000000 in
theorem long_at (n d : ByteArray) (hn : n.size ≤ maxLen) (hd : d.size ≤ maxLen) (w : World) : Calls Tryz.prog 177 #[.agg #[.string n, .string d]] w (BPost w (longB n d)) := by
  have hc := cutS_size n
  have hn' := hn
  have hd' := hd
  unfold maxLen at hn' hd'
  by_cases h1 : 100 < (cutS n).size
  · have hb : longB n d = true := by simp [longB, h1]
    rw [hb]
    clear hb
    go_enter Tryz.func177, Tryz.ntmps177
    go_wp2_with fail
    refine (trimPrefix_at n hn _).mono ?_
    rintro e w' ⟨rfl, rfl⟩
    go_wp2
    go_ret
    exact ⟨rfl, by go_grown⟩
  · by_cases h2 : 100 < d.size
    · have hb : longB n d = true := by simp [longB, h2]
      have h3 : (decide ((100 : Int) < ((cutS n).size : Int))) = false := decide_eq_false (by omega)
      have h4 : (decide (100 < (cutS n).size)) = false := decide_eq_false (by omega)
      have h5 : (decide ((100 : Int) < (d.size : Int))) = true := decide_eq_true (by omega)
      rw [hb]
      clear hb h1
      go_enter Tryz.func177, Tryz.ntmps177
      go_wp2_with fail
      refine (trimPrefix_at n hn _).mono ?_
      rintro e w' ⟨rfl, rfl⟩
      go_wp2
      go_ret
      exact ⟨rfl, by go_grown⟩
    · have hb : longB n d = false := by simp [longB]; omega
      have h3 : (decide ((100 : Int) < ((cutS n).size : Int))) = false := decide_eq_false (by omega)
      have h4 : (decide (100 < (cutS n).size)) = false := decide_eq_false (by omega)
      have h5 : (decide ((100 : Int) < (d.size : Int))) = false := decide_eq_false (by omega)
      have h6 : (decide (100 < d.size)) = false := decide_eq_false (by omega)
      rw [hb]
      clear hb h1 h2
      go_enter Tryz.func177, Tryz.ntmps177
      go_wp2_with fail
      refine (trimPrefix_at n hn _).mono ?_
      rintro e w' ⟨rfl, rfl⟩
      go_wp2
      go_ret
      exact ⟨rfl, by go_grown⟩
theorem whole_at (n : Int) (h1 : -9223372036854775808 ≤ n) (h2 : n ≤ 9223372036854775807) (w : World) : Calls Tryz.prog 125 #[.int .i64 n] w (XPost w (n : Rat)) := by
  go_enter Tryz.func125, Tryz.ntmps125
  go_upto_region 1 with (fail)
  refine wp_box1r fun W hsz hbW hC hF => ?_
  clear hsz
  go_wp2_with fail
  refine (xratInt_at n h1 h2 _).mono ?_
  rintro e w2 ⟨v, rfl, hx, hb⟩
  obtain ⟨v1, v2, rfl, hn1', hn2'⟩ := hx
  have hn1 : N w2 v1 n.natAbs := hn1'
  have hn2 : N w2 v2 1 := hn2'
  obtain ⟨p1, c5, rfl, _⟩ := hn1.open_
  obtain ⟨p2, c6, rfl, _⟩ := hn2.open_
  clear hn1' hn2'
  rw [show decide ((n : Rat).num < 0) = decide (n < 0) from rfl]
  have hC3 := hC.ext hb
  have hF3 := hF.ext hC hb
  have hbw := ext_trans hbW hb
  have hle : w.heap.size ≤ w.heap.size := Nat.le_refl _
  have g0 := hF3 0
  have g1 := hF3 1
  have g2 := hF3 2
  obtain ⟨r0, r1, r2⟩ := boxX hC3
  obtain ⟨k1, k2, k3, z0, z1, z2⟩ := res3 (decide (n < 0)) hC3 hn1 hn2 hbw hle
  have HK := Lib.hid (And.intro k1 (And.intro k2 k3))
  clear k1 k2 k3
  go_wp2
  exact bodyPost_ret (v := .agg #[.bool (decide (n < 0)), .slice p1 (digs n.natAbs).length c5, .slice p2 (digs 1).length c6]) (by simp [results, Tryz.results125, go_sem, z0, z1, z2]) rfl ⟨_, rfl, ⟨_, _, rfl, HK.out.1, HK.out.2.1⟩, HK.out.2.2⟩
end Nm
end Go.Proofs.YtmnmepbljegjeaaGreatDoor
