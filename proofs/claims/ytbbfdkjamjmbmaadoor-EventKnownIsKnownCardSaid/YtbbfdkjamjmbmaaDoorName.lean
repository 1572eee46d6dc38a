/- Names: rule.XisName and the reference's IsName. -/
import Derived.Test.YtbbfdkjamjmbmaaDoorProg
import Derived.Test.YtbbfdkjamjmbmaaDoorMem
namespace Go.Proofs.YtbbfdkjamjmbmaaDoor
open Go.RowKit
theorem ret_bool {a b : Bool} (h : a = b) : Ending.returned (.bool a) = .returned (.bool b) := by rw [h]

def withinB (n low high : Int) : Bool := decide (low ≤ n ∧ n ≤ high)
def wordN (c : Int) : Bool := decide ((97 ≤ c ∧ c ≤ 122) ∨ (48 ≤ c ∧ c ≤ 57) ∨ c = 45 ∨ c = 95)
def wordC (c : UInt8) : Bool := wordN (c.toNat : Int)
def letterAt (l : List UInt8) : Bool := match l with | [] => false | c :: _ => decide (97 ≤ (c.toNat : Int) ∧ (c.toNat : Int) ≤ 122)
def nameB (l : List UInt8) : Bool := decide (1 ≤ l.length ∧ l.length ≤ 40) && letterAt l && l.all wordC

set_option maxHeartbeats 1000000 in
theorem rule_within (n low high : Int) (w : World) : Calls Tryd.prog 36 #[.int .i64 n, .int .i64 low, .int .i64 high] w fun e w' => e = .returned (.bool (withinB n low high)) ∧ w = w' := by
  go_enter Tryd.func36, Tryd.ntmps36
  go_wp2
  all_goals go_ret
  all_goals exact ⟨ret_bool (by rw [Bool.eq_iff_iff]; first | (simp [withinB]; done) | (simp [withinB]; omega)), rfl⟩

set_option maxHeartbeats 1000000 in
theorem rule_isWord (c : Int) (w : World) : Calls Tryd.prog 37 #[.int .u8 c] w fun e w' => e = .returned (.bool (wordN c)) ∧ w = w' := by
  go_enter Tryd.func37, Tryd.ntmps37
  go_wp2
  all_goals go_ret
  all_goals exact ⟨ret_bool (by rw [Bool.eq_iff_iff]; first | (simp [wordN]; done) | (simp [wordN]; omega)), rfl⟩

/-! What a loop over the bytes of a string knows. -/
theorem all_snoc (p : UInt8 → Bool) (s : ByteArray) (k : Nat) (hk : k < s.size) (h : (s.data.toList.take k).all p = true) (hp : p s[k] = true) : (s.data.toList.take (k + 1)).all p = true := by
  rw [take_snoc s k hk, List.all_append, h]; simp [hp]
theorem all_not (p : UInt8 → Bool) (s : ByteArray) (k : Nat) (hk : k < s.size) (hp : p s[k] = false) : s.data.toList.all p = false := by
  rw [List.all_eq_false]
  exact ⟨s[k], by rw [show s[k] = s.data.toList[k]'(by simpa using hk) from rfl]; exact List.getElem_mem _, by simp [hp]⟩
theorem all_end (p : UInt8 → Bool) (s : ByteArray) (k : Nat) (hk : ¬ k < s.size) (h : (s.data.toList.take k).all p = true) : s.data.toList.all p = true := by
  rwa [List.take_of_length_le (by simp; omega)] at h

def wordsB (l : List UInt8) : Bool := l.all wordC && !l.isEmpty
theorem letterAt_of (s : ByteArray) (h : 0 < s.size) : letterAt s.data.toList = decide (97 ≤ (s[0].toNat : Int) ∧ (s[0].toNat : Int) ≤ 122) := by
  have hl : 0 < s.data.toList.length := by simpa using h
  have e : s.data.toList = s[0] :: s.data.toList.drop 1 := by
    rw [show s[0] = s.data.toList[0]'hl from rfl, ← List.drop_eq_getElem_cons hl]; simp
  rw [e]; rfl
set_option maxHeartbeats 2000000 in
theorem rule_XisName (s : ByteArray) (hs : s.size ≤ maxLen) (w : World) : Calls Tryd.prog 27 #[.string s] w fun e w' => e = .returned (.bool (nameB s.data.toList)) ∧ w = w' := by
  unfold maxLen at hs
  have hl : s.data.toList.length = s.size := Array.length_toList
  have hnb : nameB s.data.toList = (decide (1 ≤ s.size ∧ s.size ≤ 40) && letterAt s.data.toList && s.data.toList.all wordC) := by unfold nameB; rw [hl]
  have HN := Lib.hid hnb
  clear hnb hl
  by_cases hz : 1 ≤ s.size ∧ s.size ≤ 40
  · obtain ⟨h1, h40⟩ := hz
    have hlet := letterAt_of s (by omega)
    by_cases hc : 97 ≤ (s[0].toNat : Int) ∧ (s[0].toNat : Int) ≤ 122
    · obtain ⟨c1, c2⟩ := hc
      have hwi : withinB (s.size : Int) 1 40 = true := by simp [withinB]; omega
      have hnb : nameB s.data.toList = s.data.toList.all wordC := by
        rw [HN.out, hlet, show decide (1 ≤ s.size ∧ s.size ≤ 40) = true by simp; omega, show decide (97 ≤ (s[0].toNat : Int) ∧ (s[0].toNat : Int) ≤ 122) = true by simp; omega]; simp
      have HN2 := Lib.hid hnb
      clear hnb hlet HN
      go_enter Tryd.func27, Tryd.ntmps27
      go_wp2_with (go_at_call 36; refine (rule_within _ _ _ _).mono ?_; rintro e w' ⟨rfl, rfl⟩)
      go_loop [20] (fun i => ∃ k : Nat, k ≤ s.size ∧ i = .int .i64 k ∧ Hid ((s.data.toList.take k).all wordC = true)) (fun i => s.size - (intOf i).toNat)
      case atStart => exact ⟨0, by omega, rfl, rfl⟩
      case round =>
        obtain ⟨k, hk, rfl, HA⟩ := hrel
        by_cases hlt : k < s.size
        · by_cases hw : wordC s[k] = true
          · have HW := Lib.hid hw
            have hn : wordN (s[k].toNat : Int) = true := hw
            clear hw
            go_wp2_with (go_at_call 37; refine (rule_isWord _ _).mono ?_; rintro e w' ⟨rfl, rfl⟩)
            go_round
            case rel => exact ⟨k + 1, by omega, by go_num, all_snoc _ _ _ hlt HA.out HW.out⟩
            case measure => simp [intOf]; omega
          · have hw' : wordC s[k] = false := by simpa using hw
            have HW := Lib.hid (all_not _ _ _ hlt hw')
            have hn : wordN (s[k].toNat : Int) = false := hw'
            clear hw hw'
            go_wp2_with (go_at_call 37; refine (rule_isWord _ _).mono ?_; rintro e w' ⟨rfl, rfl⟩)
            go_ret
            exact ⟨ret_bool (by rw [HN2.out, HW.out]), rfl⟩
        · have HW := Lib.hid (all_end _ _ _ hlt HA.out)
          go_wp2
          go_ret
          exact ⟨ret_bool (by rw [HN2.out, HW.out]), rfl⟩
    · have hnb : nameB s.data.toList = false := by rw [HN.out, hlet, decide_eq_false hc]; simp
      have hwi : withinB (s.size : Int) 1 40 = true := by simp [withinB]; omega
      rw [hnb]
      clear hnb hlet HN
      by_cases c1 : 97 ≤ (s[0].toNat : Int)
      · have c2 : 122 < (s[0].toNat : Int) := by omega
        clear hc
        go_enter Tryd.func27, Tryd.ntmps27
        go_wp2_with (go_at_call 36; refine (rule_within _ _ _ _).mono ?_; rintro e w' ⟨rfl, rfl⟩)
        go_ret
        exact ⟨rfl, rfl⟩
      · clear hc
        go_enter Tryd.func27, Tryd.ntmps27
        go_wp2_with (go_at_call 36; refine (rule_within _ _ _ _).mono ?_; rintro e w' ⟨rfl, rfl⟩)
        go_ret
        exact ⟨rfl, rfl⟩
  · have hnb : nameB s.data.toList = false := by rw [HN.out]; simp [hz]
    have hwi : withinB (s.size : Int) 1 40 = false := by simp [withinB]; omega
    rw [hnb]
    clear hnb HN hz
    go_enter Tryd.func27, Tryd.ntmps27
    go_wp2_with (go_at_call 36; refine (rule_within _ _ _ _).mono ?_; rintro e w' ⟨rfl, rfl⟩)
    go_ret
    exact ⟨rfl, rfl⟩
end Go.Proofs.YtbbfdkjamjmbmaaDoor
