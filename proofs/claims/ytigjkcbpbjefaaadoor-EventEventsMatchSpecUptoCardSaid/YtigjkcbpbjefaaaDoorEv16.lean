/- Names: rule.XisName and the reference's IsName. Events: Check of package event and the reference's. The numeral of a number: plain mathematics. Plain: texts cut at a byte; numerals of at most 13 digits, read and written. No program stands in it. (Spl without versions) Texts split and joined; numerals written and read: the library's contracts at the seat, in plain words. Numbers in an event's text: number of package event; Number and amount of the reference. Printed by gen_evn.py. -/
import Derived.Test.YtigjkcbpbjefaaaDoorEv00
import Derived.Test.YtigjkcbpbjefaaaDoorProg
import Derived.Test.YtigjkcbpbjefaaaDoorEv01
import Derived.Deep.Cut
import Derived.Lib.SplitLaws
import Derived.Lib.AtoiTie
import Derived.Lib.ItoaNum
import Derived.Test.YtigjkcbpbjefaaaDoorEv02
import Derived.Test.YtigjkcbpbjefaaaDoorShelf
import Derived.Lib.SmallJoins
import Derived.Lib.AppendIntMem
import Derived.Test.YtigjkcbpbjefaaaDoorEv04
import Derived.Test.YtigjkcbpbjefaaaDoorEv03
namespace Go.Proofs.YtigjkcbpbjefaaaDoor
open Go.RowKit
set_option maxHeartbeats 1000000 in
theorem ref_wordByte (c : Int) (w : World) : Calls Tryd.prog 39 #[.int .u8 c] w fun e w' => e = .returned (.bool (wordN c)) ∧ w = w' := by
  go_enter Tryd.func39, Tryd.ntmps39
  go_wp2
  all_goals go_ret
  all_goals exact ⟨ret_bool (by rw [Bool.eq_iff_iff]; first | (simp [wordN]; done) | (simp [wordN]; omega)), rfl⟩

set_option maxHeartbeats 1000000 in
theorem ref_IsWord (s : ByteArray) (hs : s.size ≤ maxLen) (w : World) : Calls Tryd.prog 31 #[.string s] w fun e w' => e = .returned (.bool (wordsB s.data.toList)) ∧ w = w' := by
  unfold maxLen at hs
  go_enter Tryd.func31, Tryd.ntmps31
  go_wp2
  go_loop [6] (fun i => ∃ k : Nat, k ≤ s.size ∧ i = .int .i64 k ∧ Hid ((s.data.toList.take k).all wordC = true)) (fun i => s.size - (intOf i).toNat)
  case atStart => exact ⟨0, by omega, rfl, rfl⟩
  case round =>
    obtain ⟨k, hk, rfl, HA⟩ := hrel
    by_cases hlt : k < s.size
    · by_cases hw : wordC s[k] = true
      · have HW := Lib.hid hw
        have hn : wordN (s[k].toNat : Int) = true := hw
        clear hw
        go_wp2_with (go_at_call 39; refine (ref_wordByte _ _).mono ?_; rintro e w' ⟨rfl, rfl⟩)
        go_round
        case rel => exact ⟨k + 1, by omega, by go_num, all_snoc _ _ _ hlt HA.out HW.out⟩
        case measure => simp [intOf]; omega
      · have hw' : wordC s[k] = false := by simpa using hw
        have HW := Lib.hid (all_not _ _ _ hlt hw')
        have hn : wordN (s[k].toNat : Int) = false := hw'
        clear hw hw'
        go_wp2_with (go_at_call 39; refine (ref_wordByte _ _).mono ?_; rintro e w' ⟨rfl, rfl⟩)
        go_ret
        exact ⟨ret_bool (by unfold wordsB; rw [HW.out]; rfl), rfl⟩
    · have HW := Lib.hid (all_end _ _ _ hlt HA.out)
      go_wp2
      go_ret
      exact ⟨ret_bool (by unfold wordsB; rw [HW.out, ByteArray.toList_eq]; simp), rfl⟩

set_option maxHeartbeats 1000000 in
theorem ref_IsName (s : ByteArray) (hs : s.size ≤ maxLen) (w : World) : Calls Tryd.prog 18 #[.string s] w fun e w' => e = .returned (.bool (nameB s.data.toList)) ∧ w = w' := by
  have hs' := hs
  unfold maxLen at hs'
  by_cases h0 : 0 < s.size
  · have hlet := letterAt_of s h0
    have hw1 : wordsB s.data.toList = s.data.toList.all wordC := by
      unfold wordsB; rw [show s.data.toList.isEmpty = false by
        cases hq : s.data.toList with
        | nil => have hl : s.data.toList.length = s.size := Array.length_toList
                 rw [hq] at hl; simp at hl; omega
        | cons _ _ => rfl]; simp
    have hnb : nameB s.data.toList = (decide (s.size ≤ 40) && letterAt s.data.toList && s.data.toList.all wordC) := by
      unfold nameB
      rw [show decide (1 ≤ s.data.toList.length ∧ s.data.toList.length ≤ 40) = decide (s.size ≤ 40) by rw [decide_eq_decide]; simp; omega]
    generalize hW : s.data.toList.all wordC = W at *
    have HN := Lib.hid hnb
    have HL := Lib.hid hlet
    have HW := Lib.hid hw1
    clear hnb hlet hw1 hW
    generalize nameB s.data.toList = N at *
    generalize letterAt s.data.toList = L at *
    go_enter Tryd.func18, Tryd.ntmps18
    go_wp2_with fail
    refine (ref_IsWord s hs _).mono ?_
    rintro e w' ⟨rfl, rfl⟩
    rw [HW.out]
    go_wp2
    all_goals go_ret
    all_goals exact ⟨ret_bool (by rw [HN.out, HL.out, Bool.eq_iff_iff]; first | (simp [*]; done) | (simp [*]; omega)), rfl⟩
  · have hz : s.size = 0 := by omega
    have hnil : s.data.toList = [] := List.length_eq_zero_iff.1 (by simpa using hz)
    have hnb : nameB s.data.toList = false := by rw [hnil]; rfl
    have hw1 : wordsB s.data.toList = false := by rw [hnil]; rfl
    rw [hnb]
    have HW := Lib.hid hw1
    clear hnb hnil hz hw1
    go_enter Tryd.func18, Tryd.ntmps18
    go_wp2_with fail
    refine (ref_IsWord s hs _).mono ?_
    rintro e w' ⟨rfl, rfl⟩
    rw [HW.out]
    go_wp2
    go_ret
    exact ⟨rfl, rfl⟩

end Go.Proofs.YtigjkcbpbjefaaaDoor
namespace Go.Proofs.YtigjkcbpbjefaaaDoor
open Go.RowKit
theorem keyB_seen (s : ByteArray) : keyB s.data.toList = (seenB s.data.toList && decide ((s.size : Int) ≤ 100)) := by
  have hl : s.data.toList.length = s.size := Array.length_toList
  unfold keyB seenB
  cases hq : s.data.toList with
  | nil => simp
  | cons c r =>
    rw [hq] at hl
    rw [show decide (1 ≤ (c :: r).length ∧ (c :: r).length ≤ 100) = decide ((s.size : Int) ≤ 100) by rw [decide_eq_decide, hl]; simp at hl; omega]
    simp

set_option maxHeartbeats 2000000 in
theorem ref_Seen (s : ByteArray) (hs : s.size ≤ maxLen) (w : World) : Calls Tryd.prog 32 #[.string s] w fun e w' => e = .returned (.bool (seenB s.data.toList)) ∧ w = w' := by
  unfold maxLen at hs
  go_enter Tryd.func32, Tryd.ntmps32
  go_wp2
  go_loop [6] (fun i => ∃ k : Nat, k ≤ s.size ∧ i = .int .i64 k ∧ Hid ((s.data.toList.take k).all seenC = true)) (fun i => s.size - (intOf i).toNat)
  case atStart => exact ⟨0, by omega, rfl, rfl⟩
  case round =>
    obtain ⟨k, hk, rfl, HA⟩ := hrel
    by_cases hlt : k < s.size
    · by_cases h1 : 33 ≤ (s[k].toNat : Int)
      · by_cases h2 : (s[k].toNat : Int) ≤ 126
        · have HW : Hid (seenC s[k] = true) := by exact (by unfold seenC; simp; omega : seenC s[k] = true)
          go_wp2
          go_round
          case rel => exact ⟨k + 1, by omega, by go_num, all_snoc _ _ _ hlt HA.out HW.out⟩
          case measure => simp [intOf]; omega
        · have HW : Hid (seenB s.data.toList = false) := seenB_false (all_not _ _ _ hlt (by unfold seenC; simp; omega))
          go_wp2
          go_ret
          exact ⟨ret_bool HW.out.symm, rfl⟩
      · have HW : Hid (seenB s.data.toList = false) := seenB_false (all_not _ _ _ hlt (by unfold seenC; simp; omega))
        go_wp2
        go_ret
        exact ⟨ret_bool HW.out.symm, rfl⟩
    · have HW := Lib.hid (all_end _ _ _ hlt HA.out)
      go_wp2
      go_ret
      exact ⟨ret_bool (by unfold seenB; rw [HW.out, ByteArray.toList_eq]; simp), rfl⟩

set_option maxHeartbeats 2000000 in
theorem ref_IsKey (s : ByteArray) (hs : s.size ≤ maxLen) (w : World) : Calls Tryd.prog 20 #[.string s] w fun e w' => e = .returned (.bool (keyB s.data.toList)) ∧ w = w' := by
  have HK := Lib.hid (keyB_seen s)
  go_enter Tryd.func20, Tryd.ntmps20
  go_wp2_with (go_at_call 32; refine (ref_Seen s hs _).mono ?_; rintro e w' ⟨rfl, rfl⟩)
  all_goals go_ret
  all_goals exact ⟨ret_bool (by rw [HK.out]; simp_all), rfl⟩
theorem ref_IsTime (n : Int) (w : World) : Calls Tryd.prog 19 #[.int .i64 n] w fun e w' => e = .returned (.bool (withinB n 0 4000000000)) ∧ w = w' := by
  go_enter Tryd.func19, Tryd.ntmps19
  go_wp2
  all_goals go_ret
  all_goals exact ⟨ret_bool (by rw [Bool.eq_iff_iff]; first | (simp [withinB]; done) | (simp [withinB]; omega)), rfl⟩

end Go.Proofs.YtigjkcbpbjefaaaDoor
namespace Go.Proofs.YtigjkcbpbjefaaaDoor
namespace Nm
theorem digv_lt {c : UInt8} (hc : 48 ≤ c.toNat ∧ c.toNat ≤ 57) : digv c < 10 := by unfold digv; omega
theorem dch_digv {c : UInt8} (hc : 48 ≤ c.toNat ∧ c.toNat ≤ 57) : dch (digv c) = c := by
  apply UInt8.toNat_inj.1; rw [dch_toNat (digv_lt hc)]; unfold digv; omega
/-- the numeral is the only one -/
theorem whl_eq : ∀ (x : Nat) (l : List UInt8), Whl l → decv l = x → l = decS x := by
  intro x
  induction x using Nat.strongRecOn with
  | ind x ih =>
    intro l hw hv
    obtain ⟨hd, c, r, hl, hc⟩ := id hw
    by_cases hr : r = []
    · subst hr; subst hl
      have h2 := hd c (by simp)
      rw [← List.nil_append [c], decv_snoc, decv_nil] at hv
      have h3 := digv_lt h2
      rw [decS_small (by omega)]
      rw [show x = digv c by omega, dch_digv h2]
    · have hne : l ≠ [] := by rw [hl]; simp
      have hlen : 1 < l.length := by rw [hl]; have := List.length_pos_iff.2 hr; simp; omega
      have hp := whl_pos hw hlen
      have h10 : 10 ≤ decv l := by
        refine Nat.le_trans ?_ hp
        have := Nat.pow_le_pow_right (show 0 < 10 by decide) (show 1 ≤ l.length - 1 by omega)
        simpa using this
      have e := List.dropLast_concat_getLast hne
      have hdl : Whl l.dropLast := by
        refine ⟨fun c hc => hd c (List.dropLast_subset _ hc), c, r.dropLast, by rw [hl, List.dropLast_cons_of_ne_nil hr], fun _ => hc hr⟩
      have hg := hd (l.getLast hne) (List.getLast_mem hne)
      have hv2 := hv
      rw [← e, decv_snoc] at hv2
      have h9 := digv_lt hg
      have h5 := ih (x / 10) (by omega) l.dropLast hdl (by omega)
      rw [decS_big (by omega), ← h5, show x % 10 = digv (l.getLast hne) by omega, dch_digv hg, e]
end Nm
end Go.Proofs.YtigjkcbpbjefaaaDoor
namespace Go.Proofs.YtigjkcbpbjefaaaDoor
namespace Tx
open _root_.Go.Proofs.YtigjkcbpbjefaaaDoor.Nm
/-- the first byte is '0' -/
def zeroF (l : List UInt8) : Bool := match l with | [] => false | c :: _ => decide ((c.toNat : Int) = 48)
def digF (c : UInt8) : Bool := decide (48 ≤ (c.toNat : Int) ∧ (c.toNat : Int) ≤ 57)
/-- digits alone, at most so many, and no needless 0 -/
def digO (most : Nat) (l : List UInt8) : Bool := !l.isEmpty && decide (l.length ≤ most) && !(decide (1 < l.length) && zeroF l) && l.all digF
theorem digF_iff {l : List UInt8} : l.all digF = true ↔ Digs l := by
  rw [List.all_eq_true]
  constructor
  · intro h c hc
    have := of_decide_eq_true (h c hc)
    omega
  · intro h c hc
    have := h c hc
    exact decide_eq_true (by omega)
theorem digO_iff {most : Nat} {l : List UInt8} : digO most l = true ↔ Whl l ∧ l.length ≤ most := by
  unfold digO Whl
  rw [Bool.and_eq_true, Bool.and_eq_true, Bool.and_eq_true, digF_iff, decide_eq_true_eq]
  cases l with
  | nil => simp
  | cons c r =>
    simp only [List.isEmpty_cons, Bool.not_false, true_and, Bool.not_eq_true', Bool.and_eq_false_iff, decide_eq_false_iff_not, zeroF, List.length_cons]
    constructor
    · rintro ⟨⟨h1, h2⟩, h3⟩
      refine ⟨⟨h3, c, r, rfl, fun hr => ?_⟩, h1⟩
      rcases h2 with h2 | h2
      · exact absurd (List.eq_nil_of_length_eq_zero (by omega)) hr
      · omega
    · rintro ⟨⟨h3, c', r', he, h2⟩, h1⟩
      injection he with e1 e2
      subst e1; subst e2
      refine ⟨⟨h1, ?_⟩, h3⟩
      by_cases hr : r = []
      · left; simp [hr]
      · right; have := h2 hr; omega
/-- a number that the reference reads: 'most' digits -/
def natO (most : Nat) (l : List UInt8) : Option Int := if digO most l = true then some ((decv l : Nat) : Int) else none
theorem natO_iff {l : List UInt8} {v : Int} : natO 13 l = some v ↔ ∃ n : Nat, v = n ∧ l = decS n ∧ n < 10 ^ 13 := by
  unfold natO
  constructor
  · intro h
    by_cases hd : digO 13 l = true
    · rw [if_pos hd] at h
      injection h with h
      obtain ⟨h1, h2⟩ := digO_iff.1 hd
      have e := whl_eq _ _ h1 rfl
      exact ⟨decv l, h.symm, e, lt_of_decS (by rw [← e]; exact h2)⟩
    · rw [if_neg hd] at h; cases h
  · rintro ⟨n, rfl, rfl, h⟩
    rw [if_pos (digO_iff.2 ⟨decS_whl n, decS_length h (by decide)⟩), decv_decS]
/-- how the reference reads a number that can be below 0 -/
def amtO (l : List UInt8) : Option Int :=
  if Lib.hasPrefix l [45] = true then
    match natO 13 (trimM l) with
    | some n => if 0 < n then some (-n) else none
    | none => none
  else natO 13 l
theorem amtO_iff {l : List UInt8} {v : Int} : amtO l = some v ↔ Num13 l v := by
  unfold amtO Num13
  by_cases hp : Lib.hasPrefix l [45] = true
  · rw [if_pos hp]
    obtain ⟨r, rfl⟩ : ∃ r, l = 45 :: r := by
      cases l with
      | nil => simp [Lib.hasPrefix, List.isPrefixOf] at hp
      | cons c r =>
        have : (45 : UInt8) = c := by simpa [Lib.hasPrefix, List.isPrefixOf] using hp
        exact ⟨r, by rw [this]⟩
    rw [trimM_minus]
    constructor
    · intro h
      cases hn : natO 13 r with
      | none => rw [hn] at h; cases h
      | some n =>
        rw [hn] at h
        obtain ⟨k, rfl, rfl, hk⟩ := natO_iff.1 hn
        have h2 : (if 0 < (k : Int) then some (-(k : Int)) else none) = some v := h
        by_cases h0 : 0 < (k : Int)
        · rw [if_pos h0] at h2
          injection h2 with h2
          subst h2
          exact ⟨(itoaS_neg (by omega)).symm, by omega⟩
        · rw [if_neg h0] at h2; cases h2
    · rintro ⟨h1, h2⟩
      rcases Int.le_total 0 v with hv | hv
      · obtain ⟨n, rfl⟩ : ∃ n : Nat, v = n := ⟨v.toNat, by omega⟩
        rw [itoaS_nat] at h1
        have := (decS_digs n) 45 (by rw [← h1]; simp)
        exact absurd this.1 (by decide)
      · by_cases h0 : v = 0
        · subst h0
          rw [show itoaS 0 = decS 0 from itoaS_nat 0] at h1
          have := (decS_digs 0) 45 (by rw [← h1]; simp)
          exact absurd this.1 (by decide)
        · obtain ⟨n, rfl⟩ : ∃ n : Nat, v = -(n : Int) := ⟨v.natAbs, by omega⟩
          rw [itoaS_neg (by omega)] at h1
          injection h1 with _ h1
          rw [natO_iff.2 ⟨n, rfl, h1, by omega⟩]
          show (if 0 < (n : Int) then some (-(n : Int)) else none) = _
          rw [if_pos (by omega)]
  · rw [if_neg hp, natO_iff]
    constructor
    · rintro ⟨n, rfl, rfl, h⟩
      exact ⟨(itoaS_nat n).symm, by omega⟩
    · rintro ⟨h1, h2⟩
      rcases Int.le_total 0 v with hv | hv
      · obtain ⟨n, rfl⟩ : ∃ n : Nat, v = n := ⟨v.toNat, by omega⟩
        exact ⟨n, rfl, by rw [h1, itoaS_nat], by omega⟩
      · by_cases h0 : v = 0
        · subst h0
          exact ⟨0, rfl, by rw [h1]; exact itoaS_nat 0, by omega⟩
        · obtain ⟨n, rfl⟩ : ∃ n : Nat, v = -(n : Int) := ⟨v.natAbs, by omega⟩
          rw [itoaS_neg (by omega)] at h1
          subst h1
          exact absurd (by simp [Lib.hasPrefix, List.isPrefixOf]) hp
theorem amt_num (l : List UInt8) : amtO l = numO l := by
  cases h : numO l with
  | some v => exact amtO_iff.2 (numO_iff.1 h)
  | none =>
    cases h2 : amtO l with
    | none => rfl
    | some v => rw [numO_iff.2 (amtO_iff.1 h2)] at h; cases h
end Tx
end Go.Proofs.YtigjkcbpbjefaaaDoor
namespace Go.Proofs.YtigjkcbpbjefaaaDoor
open Go.RowKit
namespace Tx
open _root_.Go.Proofs.YtigjkcbpbjefaaaDoor.Nm
theorem atoi_at (s : ByteArray) (h : Digs s.data.toList) (h0 : 0 < s.size) (hl : s.size ≤ 18) (w : World) : Calls Tryd.prog 35 #[.string s] w fun e w' => e = .returned (.tuple #[.int .i64 ((decv s.data.toList : Nat) : Int), .nilIface]) ∧ Below w.heap.size w w' := by
  have hne : s.data.toList ≠ [] := by
    intro e
    have : s.data.toList.length = s.size := Array.length_toList
    rw [e] at this; simp at this; omega
  refine (Tryd.strconv_Atoi s _ hl (atoi_digs h hne) w).mono ?_
  rintro e w' ⟨rfl, t, rfl⟩
  refine ⟨rfl, ?_, ?_, ?_, ?_, ?_⟩
  · simp [Lib.bytesWorld, World.freeze]; rfl
  · simp [Lib.bytesWorld, World.freeze]
  · simp [Lib.bytesWorld, World.freeze]; rfl
  · rw [Lib.bytesWorld_size]; omega
  · exact fun k hk => Lib.bytesWorld_at_old _ _ _ _ hk
end Tx
end Go.Proofs.YtigjkcbpbjefaaaDoor
namespace Go.Proofs.YtigjkcbpbjefaaaDoor
open Go.RowKit
namespace Tx
open _root_.Go.Proofs.YtigjkcbpbjefaaaDoor.Nm
open _root_.Go.Proofs.YtigjkcbpbjefaaaDoor.Nt (RH RH.cell RH.box RH.lt RH.new RH.ext RH.fre RH.set RH.other)
/-- Number of the reference -/
def N4Post (l : List UInt8) (w : World) (e : Ending) (w' : World) : Prop := e = .returned (.tuple #[.int .i64 ((natO 13 l).getD 0), .bool (natO 13 l).isSome]) ∧ Below w.heap.size w w'
theorem zeroF_of (s : ByteArray) (h : 0 < s.size) : zeroF s.data.toList = decide ((s[0].toNat : Int) = 48) := by
 have hl : s.data.toList.length = s.size := Array.length_toList
 cases hc : s.data.toList with
 | nil => rw [hc] at hl; simp at hl; omega
 | cons c r =>
  have e : s[0] = c := by
   have : s.data.toList[0]'(by omega) = c := by simp [hc]
   rw [← this]; rfl
  rw [e]; rfl
set_option maxRecDepth 100000 in
set_option maxHeartbeats 8000000 in
theorem number4_at (s : ByteArray) (hs : s.size ≤ 1048576) (w : World) : Calls Tryd.prog 38 #[.string s, .int .i64 13] w (N4Post s.data.toList w) := by
 have hl : s.data.toList.length = s.size := Array.length_toList
 by_cases h0 : 0 < s.size
 ·have hem : s.toList.isEmpty = false := by
   rw [ByteArray.toList_eq]
   cases hq : s.data.toList with
   | nil => rw [hq] at hl; simp at hl; omega
   | cons _ _ => rfl
  have hem2 : (s.toList == []) = false := by
   rw [beq_eq_false_iff_ne]; intro h; rw [h] at hem; cases hem
  have hem3 : ¬ (s.toList = []) := fun h => by rw [h] at hem; cases hem
  have HG : Hid (digO 13 s.data.toList = (decide (s.size ≤ 13) && !(decide (1 < s.size) && decide ((s[0].toNat : Int) = 48)) && s.data.toList.all digF)) := Lib.hid (by
   unfold digO; rw [zeroF_of s h0, hl, ← ByteArray.toList_eq, hem]; simp)
  have HNO : Hid (natO 13 s.data.toList = if digO 13 s.data.toList = true then some ((decv s.data.toList : Nat) : Int) else none) := Lib.hid rfl
  clear hl
  by_cases h13 : s.size ≤ 13
  ·have h13' : ¬ (13 : Int) < (s.size : Int) := by omega
   by_cases hz : 1 < s.size ∧ (s[0].toNat : Int) = 48
   ·obtain ⟨hz1, hz2⟩ := hz
    have HO : Hid (natO 13 s.data.toList = none) := Lib.hid (by rw [HNO.out, HG.out, decide_eq_true hz1, decide_eq_true hz2]; simp)
    have hz1' : (1 : Int) < (s.size : Int) := by omega
    clear HG HNO
    go_enter Tryd.func38, Tryd.ntmps38
    go_wp2
    exact bodyPost_ret (v := .tuple #[.int .i64 0, .bool false]) (by simp [results, Tryd.results38, go_sem]) rfl ⟨by rw [HO.out]; rfl, Below.refl _ _⟩
   ·have HG2 : Hid (digO 13 s.data.toList = s.data.toList.all digF) := Lib.hid (by
     rw [HG.out, decide_eq_true h13]
     have : (decide (1 < s.size) && decide ((s[0].toNat : Int) = 48)) = false := by
      rw [Bool.and_eq_false_iff]
      by_cases h1 : 1 < s.size
      ·right; exact decide_eq_false (fun h => hz ⟨h1, h⟩)
      ·left; exact decide_eq_false h1
     rw [this]; rfl)
    have HZ := Lib.hid hz
    have HS := Lib.hid hs
    clear HG hz hs
    have body : ∀ (g : (s.size = 1) ∨ (1 < s.size ∧ ¬ (s[0].toNat : Int) = 48)), Calls Tryd.prog 38 #[.string s, .int .i64 13] w (N4Post s.data.toList w) := by
     intro g
     rcases g with g | ⟨g1, g2⟩
     ·have g' : ¬ (1 : Int) < (s.size : Int) := by omega
      go_enter Tryd.func38, Tryd.ntmps38
      go_wp2
      go_loop [29] (fun i => ∃ k : Nat, k ≤ s.size ∧ i = .int .i64 k ∧ Hid ((s.data.toList.take k).all digF = true)) (fun i => s.size - (intOf i).toNat)
      case atStart => exact ⟨0, by omega, rfl, rfl⟩
      case round =>
       obtain ⟨k, hk, rfl, HA⟩ := hrel
       by_cases hlt : k < s.size
       ·by_cases hw : 48 ≤ (s[k].toNat : Int)
        ·by_cases hw2 : (s[k].toNat : Int) ≤ 57
         ·have HW : Hid (digF s[k] = true) := Lib.hid (decide_eq_true ⟨hw, hw2⟩)
          go_wp2
          all_goals go_round
          case rel => exact ⟨k + 1, by omega, by go_num, Dg.all_snoc _ _ _ hlt HA.out HW.out⟩
          case measure => simp [intOf] <;> omega
         ·have HO : Hid (natO 13 s.data.toList = none) := Lib.hid (by rw [HNO.out, HG2.out, Dg.all_not digF s k hlt (decide_eq_false (fun h => hw2 h.2))]; rfl)
          have hw2' : (57 : Int) < (s[k].toNat : Int) := by omega
          clear hw2
          go_wp2
          exact bodyPost_ret (v := .tuple #[.int .i64 0, .bool false]) (by simp [results, Tryd.results38, go_sem]) rfl ⟨by rw [HO.out]; rfl, Below.refl _ _⟩
        ·have HO : Hid (natO 13 s.data.toList = none) := Lib.hid (by rw [HNO.out, HG2.out, Dg.all_not digF s k hlt (decide_eq_false (fun h => hw h.1))]; rfl)
         have hw' : (s[k].toNat : Int) < 48 := by omega
         clear hw
         go_wp2
         exact bodyPost_ret (v := .tuple #[.int .i64 0, .bool false]) (by simp [results, Tryd.results38, go_sem]) rfl ⟨by rw [HO.out]; rfl, Below.refl _ _⟩
       ·have HD := Lib.hid (Dg.all_end _ _ _ hlt HA.out)
        have HO : Hid (natO 13 s.data.toList = some ((decv s.data.toList : Nat) : Int)) := Lib.hid (by rw [HNO.out, HG2.out, if_pos HD.out])
        have HAT := Lib.hid (fun W9 => atoi_at s (digF_iff.1 HD.out) h0 (by omega) W9)
        generalize decv s.data.toList = n at *
        clear HNO
        go_wp2_with fail
        refine (HAT.out _).mono ?_
        rintro e w2 ⟨rfl, hb2⟩
        have HB := Lib.hid hb2
        clear hb2 HAT
        go_wp2
        exact bodyPost_ret (v := .tuple #[.int .i64 (n : Int), .bool true]) (by simp [results, Tryd.results38, go_sem]) rfl ⟨by rw [HO.out]; rfl, HB.out⟩
     ·have g1' : (1 : Int) < (s.size : Int) := by omega
      go_enter Tryd.func38, Tryd.ntmps38
      go_wp2
      go_loop [29] (fun i => ∃ k : Nat, k ≤ s.size ∧ i = .int .i64 k ∧ Hid ((s.data.toList.take k).all digF = true)) (fun i => s.size - (intOf i).toNat)
      case atStart => exact ⟨0, by omega, rfl, rfl⟩
      case round =>
       obtain ⟨k, hk, rfl, HA⟩ := hrel
       by_cases hlt : k < s.size
       ·by_cases hw : 48 ≤ (s[k].toNat : Int)
        ·by_cases hw2 : (s[k].toNat : Int) ≤ 57
         ·have HW : Hid (digF s[k] = true) := Lib.hid (decide_eq_true ⟨hw, hw2⟩)
          go_wp2
          all_goals go_round
          case rel => exact ⟨k + 1, by omega, by go_num, Dg.all_snoc _ _ _ hlt HA.out HW.out⟩
          case measure => simp [intOf] <;> omega
         ·have HO : Hid (natO 13 s.data.toList = none) := Lib.hid (by rw [HNO.out, HG2.out, Dg.all_not digF s k hlt (decide_eq_false (fun h => hw2 h.2))]; rfl)
          have hw2' : (57 : Int) < (s[k].toNat : Int) := by omega
          clear hw2
          go_wp2
          exact bodyPost_ret (v := .tuple #[.int .i64 0, .bool false]) (by simp [results, Tryd.results38, go_sem]) rfl ⟨by rw [HO.out]; rfl, Below.refl _ _⟩
        ·have HO : Hid (natO 13 s.data.toList = none) := Lib.hid (by rw [HNO.out, HG2.out, Dg.all_not digF s k hlt (decide_eq_false (fun h => hw h.1))]; rfl)
         have hw' : (s[k].toNat : Int) < 48 := by omega
         clear hw
         go_wp2
         exact bodyPost_ret (v := .tuple #[.int .i64 0, .bool false]) (by simp [results, Tryd.results38, go_sem]) rfl ⟨by rw [HO.out]; rfl, Below.refl _ _⟩
       ·have HD := Lib.hid (Dg.all_end _ _ _ hlt HA.out)
        have HO : Hid (natO 13 s.data.toList = some ((decv s.data.toList : Nat) : Int)) := Lib.hid (by rw [HNO.out, HG2.out, if_pos HD.out])
        have HAT := Lib.hid (fun W9 => atoi_at s (digF_iff.1 HD.out) h0 (by omega) W9)
        generalize decv s.data.toList = n at *
        clear HNO
        go_wp2_with fail
        refine (HAT.out _).mono ?_
        rintro e w2 ⟨rfl, hb2⟩
        have HB := Lib.hid hb2
        clear hb2 HAT
        go_wp2
        exact bodyPost_ret (v := .tuple #[.int .i64 (n : Int), .bool true]) (by simp [results, Tryd.results38, go_sem]) rfl ⟨by rw [HO.out]; rfl, HB.out⟩
    exact body (by
     by_cases h1 : s.size = 1
     ·exact .inl h1
     ·exact .inr ⟨by omega, fun h => HZ.out ⟨by omega, h⟩⟩)
  ·have h13' : (13 : Int) < (s.size : Int) := by omega
   have HO : Hid (natO 13 s.data.toList = none) := Lib.hid (by rw [HNO.out, HG.out, decide_eq_false h13]; simp)
   clear HG HNO
   go_enter Tryd.func38, Tryd.ntmps38
   go_wp2
   exact bodyPost_ret (v := .tuple #[.int .i64 0, .bool false]) (by simp [results, Tryd.results38, go_sem]) rfl ⟨by rw [HO.out]; rfl, Below.refl _ _⟩
 ·have hnil : s.data.toList = [] := List.eq_nil_of_length_eq_zero (by omega)
  have hem : s.toList.isEmpty = true := by rw [ByteArray.toList_eq, hnil]; rfl
  have hem2 : (s.toList == []) = true := by rw [ByteArray.toList_eq, hnil]; rfl
  have hem3 : s.toList = [] := by rw [ByteArray.toList_eq, hnil]
  have HO : Hid (natO 13 s.data.toList = none) := Lib.hid (by rw [hnil]; rfl)
  clear hnil hl
  go_enter Tryd.func38, Tryd.ntmps38
  go_wp2
  exact bodyPost_ret (v := .tuple #[.int .i64 0, .bool false]) (by simp [results, Tryd.results38, go_sem]) rfl ⟨by rw [HO.out]; rfl, Below.refl _ _⟩
theorem cutPre_at (s : ByteArray) (_hs : s.size ≤ 1048576) (w : World) : Calls Tryd.prog 37 #[.string s, .string ⟨#[45]⟩] w fun e w' => e = .returned (.tuple #[.string (stB (trimM s.data.toList)), .bool (Lib.hasPrefix s.data.toList [45])]) ∧ Below w.heap.size w w' := by
 refine (Tryd.strings_CutPrefix s ⟨#[45]⟩ w).mono ?_
 rintro e w' ⟨rfl, rfl⟩
 exact ⟨rfl, Below.refl _ _⟩
theorem trimM_len (l : List UInt8) : (trimM l).length ≤ l.length := Lib.trimPrefix_le _ _
theorem trimM_none {l : List UInt8} (h : Lib.hasPrefix l [45] = false) : trimM l = l := by unfold trimM Lib.trimPrefix; rw [h]; rfl
theorem amount_at (s : ByteArray) (hs : s.size ≤ 1048576) (w : World) : Calls Tryd.prog 27 #[.string s] w (NumPost s.data.toList w) := by
 have HS := Lib.hid hs
 have hz := trimM_len s.data.toList
 rw [show s.data.toList.length = s.size from Array.length_toList] at hz
 have HZ : Hid ((stB (trimM s.data.toList)).size ≤ 1048576) := Lib.hid (by rw [stB_size]; omega)
 have HAM : Hid (numO s.data.toList = if Lib.hasPrefix s.data.toList [45] = true then (match natO 13 (trimM s.data.toList) with | some n => if 0 < n then some (-n) else none | none => none) else natO 13 s.data.toList) := Lib.hid (by rw [← amt_num]; rfl)
 have HNP : Hid (Lib.hasPrefix s.data.toList [45] = false → trimM s.data.toList = s.data.toList) := Lib.hid trimM_none
 clear hs hz
 go_enter Tryd.func27, Tryd.ntmps27
 go_wp2_with fail
 refine (cutPre_at s HS.out w).mono ?_
 rintro e w1 ⟨rfl, hb1⟩
 have HB := Lib.hid hb1
 obtain ⟨p, hp⟩ : ∃ z, Lib.hasPrefix s.data.toList [45] = z := ⟨_, rfl⟩
 rw [hp] at HAM HNP ⊢
 obtain ⟨tm, htm⟩ : ∃ z, stB (trimM s.data.toList) = z := ⟨_, rfl⟩
 rw [htm] at HZ ⊢
 have HTM : Hid (trimM s.data.toList = tm.data.toList) := Lib.hid (by rw [← htm]; rfl)
 clear hb1 hp htm
 go_wp2_with fail
 refine (number4_at tm HZ.out w1).mono ?_
 rintro e w2 ⟨rfl, hb2⟩
 have HB2 := Lib.hid (ext_trans HB.out hb2)
 rw [HTM.out] at HAM HNP
 obtain ⟨o, ho⟩ : ∃ z, natO 13 tm.data.toList = z := ⟨_, rfl⟩
 rw [ho] at HAM ⊢
 have HO := Lib.hid ho
 clear hb2 ho HB
 cases p
 ·have HN : Hid (numO s.data.toList = o) := Lib.hid (by rw [HAM.out, if_neg (by decide), ← HNP.out rfl, HO.out])
  clear HAM HNP
  cases o with
  | none =>
   simp only [Option.getD_none, Option.isSome_none]
   go_wp2
   exact bodyPost_ret (v := .tuple #[.int .i64 0, .bool false]) (by simp [results, Tryd.results27, go_sem]) rfl ⟨0, by rw [HN.out]; rfl, fun u hu => (by rw [HN.out] at hu; cases hu), HB2.out⟩
  | some v =>
   simp only [Option.getD_some, Option.isSome_some]
   go_wp2
   exact bodyPost_ret (v := .tuple #[.int .i64 v, .bool true]) (by simp [results, Tryd.results27, go_sem]) rfl ⟨v, by rw [HN.out]; rfl, fun u hu => (by rw [HN.out] at hu; injection hu with hu; exact hu.symm), HB2.out⟩
 ·cases o with
  | none =>
   have HN : Hid (numO s.data.toList = none) := Lib.hid (by rw [HAM.out, if_pos rfl])
   clear HAM HNP
   simp only [Option.getD_none, Option.isSome_none]
   go_wp2
   exact bodyPost_ret (v := .tuple #[.int .i64 0, .bool false]) (by simp [results, Tryd.results27, go_sem]) rfl ⟨0, by rw [HN.out]; rfl, fun u hu => (by rw [HN.out] at hu; cases hu), HB2.out⟩
  | some v =>
   obtain ⟨k, hk, -, hk2⟩ := natO_iff.1 HO.out
   have hv0 : 0 ≤ v := by omega
   have hv1 : v ≤ 10000000000000 := by omega
   have HN : Hid (numO s.data.toList = if 0 < v then some (-v) else none) := Lib.hid (by rw [HAM.out, if_pos rfl])
   clear HAM HNP hk hk2
   simp only [Option.getD_some, Option.isSome_some]
   by_cases hv : 0 < v
   ·have HN2 := Lib.hid (HN.out.trans (if_pos hv))
    clear HN
    go_wp2
    exact bodyPost_ret (v := .tuple #[.int .i64 (-v), .bool true]) (by simp [results, Tryd.results27, go_sem]) rfl ⟨-v, by rw [HN2.out]; rfl, fun u hu => (by rw [HN2.out] at hu; injection hu with hu; exact hu.symm), HB2.out⟩
   ·obtain rfl : v = 0 := by omega
    have HN2 := Lib.hid (HN.out.trans (if_neg hv))
    clear HN hv
    go_wp2
    exact bodyPost_ret (v := .tuple #[.int .i64 0, .bool false]) (by simp [results, Tryd.results27, go_sem]) rfl ⟨0, by rw [HN2.out]; rfl, fun u hu => (by rw [HN2.out] at hu; cases hu), HB2.out⟩
end Tx
end Go.Proofs.YtigjkcbpbjefaaaDoor
