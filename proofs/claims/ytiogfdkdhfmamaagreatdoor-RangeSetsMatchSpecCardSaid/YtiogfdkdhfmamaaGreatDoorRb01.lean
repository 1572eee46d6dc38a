/- Comparisons of Go's library: cmp.Compare at ints and strings, strings.Compare, cmp.Or at two ints. strings.TrimLeft at one zero, cmp.Or at three ints, comparePre, slices.CompareFunc by comparePre. Versions: CheckVersion, CompareVersions, slices.Equal at strings, sameVersion. Versions that are read as data. -/
import Derived.Test.YtiogfdkdhfmamaaGreatDoorProg
import Derived.Test.YtiogfdkdhfmamaaGreatDoorRb00
import Derived.Lib.Bytealg
import Derived.Deep.RegionHeld3
import Derived.Deep.QuietTactic
import Derived.BigQuiet
namespace Go.Proofs.YtiogfdkdhfmamaaGreatDoor
open Go.RowKit

def cmpI (a b : Int) : Int := if a < b then -1 else if b < a then 1 else 0
def cmpS (a b : ByteArray) : Int := Lib.compareBytes a.data.toList b.data.toList

theorem isNaN_int (a : Int) (w : World) : Calls Tryz.prog 79 #[.int .i64 a] w fun e w' => e = .returned (.bool false) ∧ w = w' := by
  go_enter Tryz.func79, Tryz.ntmps79
  go_wp2
  go_ret
  simp

set_option maxHeartbeats 1000000 in
theorem cmp_int (a b : Int) (w : World) : Calls Tryz.prog 65 #[.int .i64 a, .int .i64 b] w fun e w' => e = .returned (.int .i64 (cmpI a b)) ∧ w = w' := by
  unfold cmpI
  by_cases h1 : a < b
  · rw [if_pos h1]
    go_enter Tryz.func65, Tryz.ntmps65
    go_wp2_with (go_at_call 79; refine (isNaN_int _ _).mono ?_; rintro e w' ⟨rfl, rfl⟩)
    go_ret
    exact ⟨rfl, rfl⟩
  · rw [if_neg h1]
    by_cases h2 : b < a
    · rw [if_pos h2]
      go_enter Tryz.func65, Tryz.ntmps65
      go_wp2_with (go_at_call 79; refine (isNaN_int _ _).mono ?_; rintro e w' ⟨rfl, rfl⟩)
      go_ret
      exact ⟨rfl, rfl⟩
    · rw [if_neg h2]
      go_enter Tryz.func65, Tryz.ntmps65
      go_wp2_with (go_at_call 79; refine (isNaN_int _ _).mono ?_; rintro e w' ⟨rfl, rfl⟩)
      go_ret
      exact ⟨rfl, rfl⟩

set_option maxRecDepth 100000 in
set_option maxHeartbeats 1000000 in
theorem compareString (a b : ByteArray) (w : World) : Calls Tryz.prog 90 #[.string a, .string b] w fun e w' => e = .returned (.int .i64 (cmpS a b)) ∧ w = w' := by
  go_enter Tryz.func90, Tryz.ntmps90
  go_wp2
  rw [run_callFunc_extern Tryz.func96 (by kernel_rfl) (by kernel_rfl) (by kernel_rfl) (e := Extern.BytealgCompare.compare) (by kernel_rfl), Lib.run_compareString]
  simp only [Result.andThen]
  rw [Oper.upon_value]
  go_wp2
  go_ret
  exact ⟨rfl, rfl⟩

set_option maxHeartbeats 1000000 in
theorem strings_Compare (a b : ByteArray) (w : World) : Calls Tryz.prog 81 #[.string a, .string b] w fun e w' => e = .returned (.int .i64 (cmpS a b)) ∧ w = w' := by
  go_enter Tryz.func81, Tryz.ntmps81
  go_wp2_with (go_at_call 90; refine (compareString _ _ _).mono ?_; rintro e w' ⟨rfl, rfl⟩)
  go_ret
  exact ⟨rfl, rfl⟩

/-- '<' on the bytes of two strings, as the model has it, by compareBytes -/
theorem less_iff : ∀ (a b : List UInt8), Op.bytesLess a b = decide (Lib.compareBytes a b < 0)
  | [], [] => by simp [Op.bytesLess, Lib.compareBytes]
  | [], _ :: _ => by simp [Op.bytesLess, Lib.compareBytes]
  | _ :: _, [] => by simp [Op.bytesLess, Lib.compareBytes]
  | x :: a, y :: b => by
    have ih := less_iff a b
    simp only [Op.bytesLess, Lib.compareBytes]
    by_cases h1 : x < y
    · simp [h1]
    · by_cases h2 : y < x
      · have : (x == y) = false := by
          rw [beq_eq_false_iff_ne]; intro e; subst e; exact h1 h2
        simp [h1, h2, this]
      · have : x = y := UInt8.le_antisymm (UInt8.not_lt.1 h2) (UInt8.not_lt.1 h1)
        subst this
        simp [h1, ih]
theorem compare_self : ∀ a : List UInt8, Lib.compareBytes a a = 0
  | [] => rfl
  | x :: a => by simp [Lib.compareBytes, UInt8.lt_irrefl, compare_self a]
theorem compare_zero : ∀ {a b : List UInt8}, Lib.compareBytes a b = 0 → a = b
  | [], [], _ => rfl
  | [], _ :: _, h => by simp [Lib.compareBytes] at h
  | _ :: _, [], h => by simp [Lib.compareBytes] at h
  | x :: a, y :: b, h => by
    simp only [Lib.compareBytes] at h
    by_cases h1 : x < y
    · simp [h1] at h
    · by_cases h2 : y < x
      · simp [h1, h2] at h
      · have : x = y := UInt8.le_antisymm (UInt8.not_lt.1 h2) (UInt8.not_lt.1 h1)
        subst this
        simp [h1] at h
        rw [compare_zero h]
theorem compare_anti : ∀ (a b : List UInt8), Lib.compareBytes b a = - Lib.compareBytes a b
  | [], [] => rfl
  | [], _ :: _ => rfl
  | _ :: _, [] => rfl
  | x :: a, y :: b => by
    have ih := compare_anti a b
    simp only [Lib.compareBytes]
    by_cases h1 : x < y
    · have h2 : ¬ y < x := fun h => UInt8.lt_irrefl _ (UInt8.lt_trans h1 h)
      simp [h1, h2]
    · by_cases h2 : y < x
      · simp [h1, h2]
      · simp [h1, h2, ih]
theorem compare_tri : ∀ (a b : List UInt8), Lib.compareBytes a b = -1 ∨ Lib.compareBytes a b = 0 ∨ Lib.compareBytes a b = 1
  | [], [] => .inr (.inl rfl)
  | [], _ :: _ => .inl rfl
  | _ :: _, [] => .inr (.inr rfl)
  | x :: a, y :: b => by
    have ih := compare_tri a b
    simp only [Lib.compareBytes]
    by_cases h1 : x < y
    · simp [h1]
    · by_cases h2 : y < x
      · simp [h1, h2]
      · simpa [h1, h2] using ih
theorem compare_trans : ∀ {a b c : List UInt8}, Lib.compareBytes a b ≤ 0 → Lib.compareBytes b c ≤ 0 → Lib.compareBytes a c ≤ 0
  | [], _, [], _, _ => by simp [Lib.compareBytes]
  | [], _, _ :: _, _, _ => by simp [Lib.compareBytes]
  | _ :: _, [], _, h, _ => by simp [Lib.compareBytes] at h
  | _ :: _, _ :: _, [], _, h => by simp [Lib.compareBytes] at h
  | x :: a, y :: b, z :: c, h, k => by
    simp only [Lib.compareBytes] at h k ⊢
    by_cases h1 : x < y
    · by_cases k1 : y < z
      · simp [UInt8.lt_trans h1 k1]
      · by_cases k2 : z < y
        · simp [k1, k2] at k
        · have : y = z := UInt8.le_antisymm (UInt8.not_lt.1 k2) (UInt8.not_lt.1 k1)
          subst this; simp [h1]
    · by_cases h2 : y < x
      · simp [h1, h2] at h
      · have : x = y := UInt8.le_antisymm (UInt8.not_lt.1 h2) (UInt8.not_lt.1 h1)
        subst this
        simp only [h1, if_false] at h
        by_cases k1 : x < z
        · simp [k1]
        · by_cases k2 : z < x
          · simp [k1, k2] at k
          · simp only [k1, k2, if_false] at k ⊢
            exact compare_trans h k

theorem cmpI_self (a : Int) : cmpI a a = 0 := by unfold cmpI; simp
theorem cmpI_zero {a b : Int} (h : cmpI a b = 0) : a = b := by
  unfold cmpI at h
  by_cases h1 : a < b
  · simp [h1] at h
  · by_cases h2 : b < a
    · simp [h1, h2] at h
    · omega
theorem cmpI_anti (a b : Int) : cmpI b a = - cmpI a b := by unfold cmpI; split <;> split <;> simp_all <;> omega
theorem cmpI_trans {a b c : Int} (h : cmpI a b ≤ 0) (k : cmpI b c ≤ 0) : cmpI a c ≤ 0 := by
  unfold cmpI at *
  by_cases h1 : a < b <;> by_cases h2 : b < a <;> by_cases k1 : b < c <;> by_cases k2 : c < b <;> by_cases l1 : a < c <;> by_cases l2 : c < a <;> simp_all <;> omega

theorem bytes_ext {a b : ByteArray} (h : a.data.toList = b.data.toList) : a = b := by
  cases a with | mk a => cases b with | mk b =>
    simp only [ByteArray.mk.injEq]
    exact Array.toList_inj.1 h
theorem cmpS_zero {a b : ByteArray} (h : cmpS a b = 0) : a = b := bytes_ext (compare_zero h)
theorem cmpS_anti (a b : ByteArray) : cmpS b a = - cmpS a b := compare_anti _ _
theorem cmpS_tri (a b : ByteArray) : cmpS a b = -1 ∨ cmpS a b = 0 ∨ cmpS a b = 1 := compare_tri _ _
theorem cmpS_trans {a b c : ByteArray} (h : cmpS a b ≤ 0) (k : cmpS b c ≤ 0) : cmpS a c ≤ 0 := compare_trans h k

theorem isNaN_string (a : ByteArray) (w : World) : Calls Tryz.prog 91 #[.string a] w fun e w' => e = .returned (.bool false) ∧ w = w' := by
  go_enter Tryz.func91, Tryz.ntmps91
  go_wp2
  go_ret
  simp

theorem cmpS_lt {a b : ByteArray} (h : Op.bytesLess a.toList b.toList = true) : cmpS a b = -1 := by
  rw [ByteArray.toList_eq, ByteArray.toList_eq, less_iff] at h
  have := cmpS_tri a b
  unfold cmpS at *
  simp at h; omega
theorem cmpS_eq {a b : ByteArray} (h : (!a.toList == b.toList) = false) : cmpS a b = 0 := by
  rw [ByteArray.toList_eq, ByteArray.toList_eq] at h
  have e : a.data.toList = b.data.toList := by simpa using h
  unfold cmpS; rw [e]; exact compare_self _
theorem cmpS_gt {a b : ByteArray} (h : Op.bytesLess a.toList b.toList = false) (k : (!a.toList == b.toList) = true) : cmpS a b = 1 := by
  rw [ByteArray.toList_eq, ByteArray.toList_eq] at h k
  rw [less_iff] at h
  have := cmpS_tri a b
  have hne : cmpS a b ≠ 0 := fun e => by
    have := compare_zero e
    rw [this] at k; simp at k
  unfold cmpS at *
  simp at h; omega
set_option maxHeartbeats 1000000 in
theorem cmp_string (a b : ByteArray) (w : World) : Calls Tryz.prog 83 #[.string a, .string b] w fun e w' => e = .returned (.int .i64 (cmpS a b)) ∧ w = w' := by
  go_enter Tryz.func83, Tryz.ntmps83
  go_wp2_with (go_at_call 91; refine (isNaN_string _ _).mono ?_; rintro e w' ⟨rfl, rfl⟩)
  · go_ret
    exact ⟨ret_int (cmpS_lt ‹_›).symm, rfl⟩
  · go_ret
    exact ⟨ret_int (cmpS_gt ‹Op.bytesLess _ _ = false› ‹(!_) = true›).symm, rfl⟩
  · go_ret
    exact ⟨ret_int (cmpS_eq ‹(!_) = false›).symm, rfl⟩

/-- cmp.Or at two ints: the first that is not 0 -/
def orI (a b : Int) : Int := if a = 0 then b else a
set_option maxHeartbeats 1000000 in
theorem or_two (a b : Int) (g : Nat) (w : World) (h0 : w.cell? ⟨g, 0, none⟩ = some (.int .i64 a)) (h1 : w.cell? ⟨g, 1, none⟩ = some (.int .i64 b)) : Calls Tryz.prog 64 #[.slice (some ⟨g, 0, none⟩) 2 2] w fun e w' => e = .returned (.int .i64 (orI a b)) ∧ w = w' := by
  unfold orI
  by_cases ha : a = 0
  · subst ha
    by_cases hb : b = 0
    · subst hb
      go_enter Tryz.func64, Tryz.ntmps64
      go_wp2
      go_rounds 3
      go_ret
      exact ⟨rfl, rfl⟩
    · have hb' : (b != 0) = true := by simp [hb]
      go_enter Tryz.func64, Tryz.ntmps64
      go_wp2
      go_rounds 3
      go_ret
      exact ⟨rfl, rfl⟩
  · have ha' : (a != 0) = true := by simp [ha]
    rw [if_neg ha]
    go_enter Tryz.func64, Tryz.ntmps64
    go_wp2
    go_rounds 3
    go_ret
    exact ⟨rfl, rfl⟩
end Go.Proofs.YtiogfdkdhfmamaaGreatDoor
namespace Go.Proofs.YtiogfdkdhfmamaaGreatDoor
open Go.RowKit
def trimZ : List UInt8 → List UInt8
  | [] => []
  | c :: l => if (c.toNat : Int) = 48 then trimZ l else c :: l
def trimA (s : ByteArray) : ByteArray := ⟨(trimZ s.data.toList).toArray⟩
theorem trimA_list (s : ByteArray) : (trimA s).data.toList = trimZ s.data.toList := by simp [trimA]
theorem ret_str {a b : ByteArray} (h : a = b) : Ending.returned (.string a) = .returned (.string b) := by rw [h]
def strLen : Value → Nat
  | .string s => s.size
  | _ => 0
theorem head_cons (s : ByteArray) (h : 0 < s.size) : s.data.toList = s[0] :: s.data.toList.drop 1 := by
  have hl : 0 < s.data.toList.length := by simpa using h
  rw [show s[0] = s.data.toList[0]'hl from rfl, ← List.drop_eq_getElem_cons hl]; simp
theorem extract_one (s : ByteArray) : (s.extract 1 s.size).data.toList = s.data.toList.drop 1 := by
  rw [Lib.extract_data, List.take_of_length_le (by rw [List.length_drop, Array.length_toList]; exact Nat.le_refl _)]
set_option maxHeartbeats 1000000 in
theorem trimLeftByte_zero (s : ByteArray) (_hs : s.size ≤ maxLen) (w : World) : Calls Tryz.prog 86 #[.string s, .int .u8 48] w fun e w' => e = .returned (.string (trimA s)) ∧ w = w' := by
  unfold maxLen at _hs
  go_enter Tryz.func86, Tryz.ntmps86
  go_wp2
  go_loop [0] (fun t => ∃ r : ByteArray, r.size ≤ s.size ∧ t = .string r ∧ Hid (trimZ s.data.toList = trimZ r.data.toList)) (fun t => strLen t)
  case atStart => exact ⟨s, Nat.le_refl _, rfl, rfl⟩
  case round =>
    obtain ⟨r, hr, rfl, HT⟩ := hrel
    by_cases h0 : 0 < r.size
    · by_cases h1 : (r[0].toNat : Int) = 48
      · have HX : Hid (trimZ s.data.toList = trimZ (r.extract 1 r.size).data.toList) := by
          have : trimZ s.data.toList = trimZ (r.extract 1 r.size).data.toList := by
            rw [HT.out, extract_one, head_cons r h0]; simp only [trimZ, if_pos h1, List.drop_succ_cons, List.drop_zero]
          exact this
        go_wp2
        go_round
        case rel => exact ⟨_, by simp [ByteArray.size_extract]; omega, rfl, HX⟩
        case measure => simp [strLen]; omega
      · have HX : Hid (r = trimA s) := by
          have : r = trimA s := bytes_ext (by rw [trimA_list, HT.out, head_cons r h0]; simp only [trimZ, if_neg h1])
          exact this
        go_wp2
        go_ret
        exact ⟨ret_str HX.out, rfl⟩
    · have HX : Hid (r = trimA s) := by
        have : r = trimA s := bytes_ext (by
          have hl : r.data.toList.length = r.size := Array.length_toList
          have e : r.data.toList = [] := List.eq_nil_of_length_eq_zero (by omega)
          rw [trimA_list, HT.out, e]; rfl)
        exact this
      go_wp2
      go_ret
      exact ⟨ret_str HX.out, rfl⟩
set_option maxRecDepth 100000 in
set_option maxHeartbeats 1000000 in
theorem trimLeft_zero (s : ByteArray) (hs : s.size ≤ maxLen) (w : World) : Calls Tryz.prog 80 #[.string s, .string ⟨#[48]⟩] w fun e w' => e = .returned (.string (trimA s)) ∧ w = w' := by
  by_cases h0 : s.data.toList = []
  · have hem : s.toList.isEmpty = true := by rw [ByteArray.toList_eq, h0]; rfl
    have HX : Hid (s = trimA s) := by
      have : s = trimA s := bytes_ext (by rw [trimA_list, h0]; rfl)
      exact this
    clear h0
    go_enter Tryz.func80, Tryz.ntmps80
    go_wp2
    go_ret
    exact ⟨ret_str HX.out, rfl⟩
  · have hem : s.toList.isEmpty = false := by rw [ByteArray.toList_eq]; simpa using h0
    clear h0
    go_enter Tryz.func80, Tryz.ntmps80
    go_wp2_with (go_at_call 86; refine (trimLeftByte_zero s hs _).mono ?_; rintro e w' ⟨rfl, rfl⟩)
    go_ret
    exact ⟨rfl, rfl⟩

set_option maxHeartbeats 1000000 in
theorem or_three (a b c : Int) (g : Nat) (w : World) (h0 : w.cell? ⟨g, 0, none⟩ = some (.int .i64 a)) (h1 : w.cell? ⟨g, 1, none⟩ = some (.int .i64 b)) (h2 : w.cell? ⟨g, 2, none⟩ = some (.int .i64 c)) : Calls Tryz.prog 64 #[.slice (some ⟨g, 0, none⟩) 3 3] w fun e w' => e = .returned (.int .i64 (orI a (orI b c))) ∧ w = w' := by
  unfold orI
  by_cases ha : a = 0
  · subst ha
    by_cases hb : b = 0
    · subst hb
      by_cases hc : c = 0
      · subst hc
        go_enter Tryz.func64, Tryz.ntmps64
        go_wp2
        go_rounds 4
        go_ret
        exact ⟨rfl, rfl⟩
      · have hc' : (c != 0) = true := by simp [hc]
        go_enter Tryz.func64, Tryz.ntmps64
        go_wp2
        go_rounds 4
        go_ret
        exact ⟨rfl, rfl⟩
    · have hb' : (b != 0) = true := by simp [hb]
      rw [if_pos rfl, if_neg hb]
      go_enter Tryz.func64, Tryz.ntmps64
      go_wp2
      go_rounds 4
      go_ret
      exact ⟨rfl, rfl⟩
  · have ha' : (a != 0) = true := by simp [ha]
    rw [if_neg ha]
    go_enter Tryz.func64, Tryz.ntmps64
    go_wp2
    go_rounds 4
    go_ret
    exact ⟨rfl, rfl⟩
def numB (l : List UInt8) : Bool := !l.isEmpty && digsB l
def numP (a b : ByteArray) : Int := orI (cmpI ((trimA a).size : Int) ((trimA b).size : Int)) (cmpS (trimA a) (trimA b))
def cmpP (a b : ByteArray) : Int := if numB a.data.toList = true then (if numB b.data.toList = true then numP a b else -1) else if numB b.data.toList = true then 1 else cmpS a b
/-- what the walk knows of one side -/
theorem num_true {s : ByteArray} (h : numB s.data.toList = true) : (s.toList.isEmpty = false) ∧ digsB s.data.toList = true := by
  unfold numB at h; rw [ByteArray.toList_eq]; simpa using h
theorem num_false {s : ByteArray} (h : ¬ numB s.data.toList = true) : (s.toList.isEmpty = true) ∨ (s.toList.isEmpty = false ∧ digsB s.data.toList = false) := by
  unfold numB at h; rw [ByteArray.toList_eq]
  cases h1 : s.data.toList.isEmpty
  · right; rw [h1] at h; simpa using h
  · left; rfl
def cmpPs : List ByteArray → List ByteArray → Int
  | [], [] => 0
  | [], _ :: _ => -1
  | _ :: _, [] => 1
  | x :: xs, y :: ys => orI (cmpP x y) (cmpPs xs ys)
def strs (l : List ByteArray) : List Value := l.map Value.string
theorem strs_get {l : List ByteArray} {k : Nat} (h : k < l.length) : (strs l)[k]? = some (.string l[k]) := by simp [strs, h]
theorem drop_nil' {α : Type} (l : List α) (k : Nat) (h : l.length ≤ k) : l.drop k = [] := List.drop_eq_nil_of_le h
theorem drop_cons' {α : Type} {l : List α} {k : Nat} (hk : k < l.length) : l.drop k = l[k] :: l.drop (k + 1) := List.drop_eq_getElem_cons hk
theorem Sl.addr {w : World} {a : Option Addr} {n c : Nat} {cs : List Value} (h : Sl w (.slice a n c) n cs) {k : Nat} {x : Value} (hk : cs[k]? = some x) : ∃ b o, a = some ⟨b, o, none⟩ ∧ w.cell? ⟨b, o + k, none⟩ = some x := by
  obtain ⟨a', cap, hv, _, _, _, h3⟩ := h
  cases hv
  exact h3 _ _ hk
theorem Sl.len63 {w : World} {a : Option Addr} {n c : Nat} {cs : List Value} (h : Sl w (.slice a n c) n cs) : n ≤ 9223372036854775807 := by
  obtain ⟨_, _, hv, h1, h2, _⟩ := h; cases hv; unfold maxLen at h2; omega
end Go.Proofs.YtiogfdkdhfmamaaGreatDoor
namespace Go.Proofs.YtiogfdkdhfmamaaGreatDoor
open Go.RowKit
structure Ver where
  ma : Int
  mi : Int
  pa : Int
  pre : List ByteArray
/-- four cells read as a version -/
def RepVer (w : World) (x : Ver) (cs : List Value) : Prop :=
  ∃ a c, cs = [.int .i64 x.ma, .int .i64 x.mi, .int .i64 x.pa, .slice a x.pre.length c] ∧ Sl w (.slice a x.pre.length c) x.pre.length (strs x.pre) ∧ ∀ s ∈ x.pre, s.size ≤ maxLen
theorem RepVer.ext {w w' : World} {x : Ver} {cs : List Value} (h : RepVer w x cs) (hb : Below w.heap.size w w') : RepVer w' x cs := by
  obtain ⟨a, c, h0, h1, h2⟩ := h; exact ⟨a, c, h0, h1.ext hb, h2⟩
def preOk (s : ByteArray) : Bool := decide (s.size ≤ 20) && preB s.data.toList && !(digsB s.data.toList && !wholeB s.data.toList)
def rngOk (x : Ver) : Bool := withinV x.ma 0 999999 && withinV x.mi 0 999999 && withinV x.pa 0 999999
def chkVer (x : Ver) : Int := if rngOk x = false then 1 else if 10 < x.pre.length then 2 else if x.pre.all preOk = true then 0 else 3
def cmpVer (x y : Ver) : Int :=
  let c := orI (cmpI x.ma y.ma) (orI (cmpI x.mi y.mi) (cmpI x.pa y.pa))
  if c ≠ 0 then c else if x.pre = [] then (if y.pre = [] then 0 else 1) else if y.pre = [] then -1 else cmpPs x.pre y.pre
theorem value_isPre_is (s : ByteArray) (hs : s.size ≤ maxLen) (b : Bool) (h : preB s.data.toList = b) (w : World) : Calls Tryz.prog 51 #[.string s] w fun e w' => e = .returned (.bool b) ∧ w = w' := by
  subst h; exact value_isPre s hs w
theorem value_allDigits_is (s : ByteArray) (hs : s.size ≤ maxLen) (b : Bool) (h : digsB s.data.toList = b) (w : World) : Calls Tryz.prog 52 #[.string s] w fun e w' => e = .returned (.bool b) ∧ w = w' := by
  subst h; exact value_allDigits s hs w
theorem value_whole_is (s : ByteArray) (hs : s.size ≤ maxLen) (b : Bool) (h : wholeB s.data.toList = b) (w : World) : Calls Tryz.prog 53 #[.string s] w fun e w' => e = .returned (.bool b) ∧ w = w' := by
  subst h; exact value_whole s hs w
theorem value_within_is (n : Int) (b : Bool) (h : withinV n 0 999999 = b) (w : World) : Calls Tryz.prog 50 #[.int .i64 n, .int .i64 0, .int .i64 999999] w fun e w' => e = .returned (.bool b) ∧ w = w' := by
  subst h; exact value_within n 0 999999 w
theorem rng_bad {x : Ver} (h : rngOk x = false) : chkVer x = 1 := by unfold chkVer; rw [if_pos h]
theorem rng_good {x : Ver} (h : rngOk x = true) : chkVer x = if 10 < x.pre.length then 2 else if x.pre.all preOk = true then 0 else 3 := by unfold chkVer; rw [if_neg (by simp [h])]
set_option maxHeartbeats 4000000 in
theorem checkVersion_at (x : Ver) (cs : List Value) (w : World) (h : RepVer w x cs) : Calls Tryz.prog 37 #[.agg cs.toArray] w fun e w' => e = .returned (.int .i64 (chkVer x)) ∧ Below w.heap.size w w' := by
  obtain ⟨a, c, rfl, s1, h1⟩ := h
  obtain ⟨ma, mi, pa, pre⟩ := x
  simp only at s1 h1
  have H1 := Lib.hid h1
  have hl := s1.len63
  clear h1
  go_enter Tryz.func37, Tryz.ntmps37
  go_wp2
  go_loop [15] (fun i => ∃ k : Nat, k ≤ 3 ∧ i = .int .i64 k ∧ Hid (∀ j, j < k → withinV ([ma, mi, pa].getD j 0) 0 999999 = true)) (fun i => 3 - (intOf i).toNat)
  case atStart => exact ⟨0, by omega, rfl, fun j hj => by omega⟩
  case round =>
    obtain ⟨k, hk, rfl, HJ⟩ := hrel
    have hk4 : k = 0 ∨ k = 1 ∨ k = 2 ∨ k = 3 := by omega
    rcases hk4 with rfl | rfl | rfl | rfl
    · generalize hd : withinV ma 0 999999 = d
      have HD := Lib.hid hd
      go_wp2_with (go_at_call 50; refine (value_within_is _ d hd _).mono ?_; rintro e w' ⟨rfl, rfl⟩)
      all_goals first | (go_ret; exact ⟨ret_int (rng_bad (by unfold rngOk; have := HD.out; simp_all)).symm, by go_grown⟩) | skip
      go_round
      case rel => exact ⟨1, by omega, rfl, fun j hj => if h : j < 0 then HJ.out j h else by obtain rfl : j = 0 := (by omega); have := HD.out; simp_all⟩
      case measure => simp [intOf]
    · generalize hd : withinV mi 0 999999 = d
      have HD := Lib.hid hd
      go_wp2_with (go_at_call 50; refine (value_within_is _ d hd _).mono ?_; rintro e w' ⟨rfl, rfl⟩)
      all_goals first | (go_ret; exact ⟨ret_int (rng_bad (by unfold rngOk; have := HD.out; simp_all)).symm, by go_grown⟩) | skip
      go_round
      case rel => exact ⟨2, by omega, rfl, fun j hj => if h : j < 1 then HJ.out j h else by obtain rfl : j = 1 := (by omega); have := HD.out; simp_all⟩
      case measure => simp [intOf]
    · generalize hd : withinV pa 0 999999 = d
      have HD := Lib.hid hd
      go_wp2_with (go_at_call 50; refine (value_within_is _ d hd _).mono ?_; rintro e w' ⟨rfl, rfl⟩)
      all_goals first | (go_ret; exact ⟨ret_int (rng_bad (by unfold rngOk; have := HD.out; simp_all)).symm, by go_grown⟩) | skip
      go_round
      case rel => exact ⟨3, by omega, rfl, fun j hj => if h : j < 2 then HJ.out j h else by obtain rfl : j = 2 := (by omega); have := HD.out; simp_all⟩
      case measure => simp [intOf]
    · have hall : rngOk ⟨ma, mi, pa, pre⟩ = true := by
        have := HJ.out
        have a0 := this 0 (by omega)
        have a1 := this 1 (by omega)
        have a2 := this 2 (by omega)
        unfold rngOk
        simp only [List.getD_cons_zero, List.getD_cons_succ] at a0 a1 a2
        simp only [a0, a1, a2]; rfl
      have HC := Lib.hid (rng_good hall)
      clear hall HJ
      go_wp2
      · go_ret
        exact ⟨ret_int (by rw [HC.out, if_pos (by omega)]), by go_grown⟩
      · have hle : pre.length ≤ 10 := by omega
        have HC2 := Lib.hid (HC.out.trans (if_neg (show ¬ 10 < pre.length by omega)))
        clear HC
        go_loop [30] (fun i => ∃ k : Nat, k ≤ pre.length ∧ i = .int .i64 k ∧ Hid ((pre.take k).all preOk = true)) (fun i => pre.length - (intOf i).toNat)
        case atStart => exact ⟨0, by omega, rfl, rfl⟩
        case round =>
          obtain ⟨k, hk, rfl, HA⟩ := hrel
          by_cases hlt : k < pre.length
          · obtain ⟨b, o, rfl, e0⟩ := s1.addr (strs_get hlt)
            have l0 := World.block_lt_of_cell? _ _ e0
            have hsz := H1.out _ (List.getElem_mem hlt)
            have hsz' := hsz
            unfold maxLen at hsz'
            have HT : Hid ((pre.take (k + 1)).all preOk = preOk pre[k]) := by
              have : (pre.take (k + 1)).all preOk = preOk pre[k] := by rw [List.take_succ_eq_append_getElem hlt, List.all_append, HA.out]; simp
              exact this
            have HF : Hid (preOk pre[k] = false → pre.all preOk = false) := by
              have : preOk pre[k] = false → pre.all preOk = false := fun h => by
                rw [List.all_eq_false]; exact ⟨_, List.getElem_mem hlt, by simp [h]⟩
              exact this
            generalize pre[k] = s at *
            have HO : Hid (preOk s = (decide (s.size ≤ 20) && preB s.data.toList && !(digsB s.data.toList && !wholeB s.data.toList))) := rfl
            generalize h2 : preB s.data.toList = p2 at *
            generalize h3 : digsB s.data.toList = p3 at *
            generalize h4 : wholeB s.data.toList = p4 at *
            go_wp2_with (first | (go_at_call 51; refine (value_isPre_is _ hsz p2 h2 _).mono ?_; rintro e w' ⟨rfl, rfl⟩) | (go_at_call 52; refine (value_allDigits_is _ hsz p3 h3 _).mono ?_; rintro e w' ⟨rfl, rfl⟩) | (go_at_call 53; refine (value_whole_is _ hsz p4 h4 _).mono ?_; rintro e w' ⟨rfl, rfl⟩))
            all_goals clear h2 h3 h4 e0
            · have hf : preOk s = false := by rw [HO.out]; clear HO HF HT HA HC2 H1 s1; grind
              have HC3 := Lib.hid (HC2.out.trans (if_neg (by rw [HF.out hf]; simp)))
              go_ret
              exact ⟨ret_int HC3.out.symm, by go_grown⟩
            · have hf : preOk s = true := by rw [HO.out]; clear HO HF HT HA HC2 H1 s1; grind
              have HT2 := Lib.hid (HT.out.trans hf)
              go_round
              case rel => exact ⟨k + 1, by omega, by go_num, HT2⟩
              case measure => simp [intOf]; omega
            · have hf : preOk s = true := by rw [HO.out]; clear HO HF HT HA HC2 H1 s1; grind
              have HT2 := Lib.hid (HT.out.trans hf)
              go_round
              case rel => exact ⟨k + 1, by omega, by go_num, HT2⟩
              case measure => simp [intOf]; omega
            · have hf : preOk s = false := by rw [HO.out]; clear HO HF HT HA HC2 H1 s1; grind
              have HC3 := Lib.hid (HC2.out.trans (if_neg (by rw [HF.out hf]; simp)))
              go_ret
              exact ⟨ret_int HC3.out.symm, by go_grown⟩
            · have hf : preOk s = false := by rw [HO.out, decide_eq_false (show ¬ s.size ≤ 20 by omega)]; rfl
              have HC3 := Lib.hid (HC2.out.trans (if_neg (by rw [HF.out hf]; simp)))
              go_ret
              exact ⟨ret_int HC3.out.symm, by go_grown⟩
          · have HE : Hid (pre.all preOk = true) := by
              have := HA.out
              rw [List.take_of_length_le (by omega)] at this
              exact this
            go_wp2
            go_ret
            exact ⟨ret_int (by rw [HC2.out, if_pos HE.out]), by go_grown⟩
end Go.Proofs.YtiogfdkdhfmamaaGreatDoor
namespace Go.Proofs.YtiogfdkdhfmamaaGreatDoor
open Go.RowKit
namespace Rv
theorem cells_Version : Tryz.prog.cellsOf 29 = 4 := by kernel_rfl
theorem cells_int : Tryz.prog.cellsOf 3 = 1 := by kernel_rfl
theorem cells_string : Tryz.prog.cellsOf 9 = 1 := by kernel_rfl
theorem cells_strings : Tryz.prog.cellsOf 27 = 1 := by kernel_rfl
theorem len4 {l : List Value} (h : l.length = 4) : ∃ a b c d, l = [a, b, c, d] := by
  match l, h with
  | [a, b, c, d], _ => exact ⟨a, b, c, d, rfl⟩
def RStr (s : ByteArray) (cs : List Value) : Prop := cs = [.string s] ∧ s.size ≤ maxLen
theorem RStr.len (s : ByteArray) (cs : List Value) (h : RStr s cs) : cs.length = 1 := by rw [h.1]; rfl
theorem reps_str : ∀ {l : List ByteArray} {cs : List Value}, Reps RStr l cs → cs = strs l ∧ ∀ s ∈ l, s.size ≤ maxLen
  | [], _, h => by cases h; exact ⟨rfl, fun _ h => by cases h⟩
  | x :: l, _, ⟨c, r, e, h1, h2⟩ => by
    obtain ⟨h3, h4⟩ := reps_str h2
    obtain ⟨h5, h6⟩ := h1
    subst e; subst h3; subst h5
    exact ⟨rfl, fun s hs => by rcases List.mem_cons.1 hs with rfl | hs; exact h6; exact h4 s hs⟩
section
variable {H : Type} {enc : TypeId × Value → H} {W : World} {spare : Nat → Bool} {held : Bool}
theorem read_string (fuel : Nat) (cs : List Value) (x : DataW H × List MemPlace) (h : DataW.trod enc Tryz.prog W 0 spare held fuel 9 cs = some x) : ∃ s, RStr s cs := by
  obtain ⟨s, h2, _, w2⟩ := DataW.trod_string Tryz.underlying9 h
  exact ⟨s, h2, w2⟩
theorem read_Ver (fuel : Nat) (cs : List Value) (x : DataW H × List MemPlace) (h : DataW.trod enc Tryz.prog W 0 spare held fuel 29 cs = some x) : ∃ v, RepVer W v cs := by
  obtain ⟨xs, n, rfl, _, hlen, _, hf⟩ := DataW.trod_struct Tryz.underlying29 h
  rw [cells_Version] at hlen
  obtain ⟨c0, c1, c2, c3, rfl⟩ := len4 hlen
  have f0 : DataW.trod enc Tryz.prog W 0 spare held n 3 (List.take (Tryz.prog.cellsOf 3) (List.drop 0 [c0, c1, c2, c3])) = xs[0]? := hf 0 _ rfl
  have f1 : DataW.trod enc Tryz.prog W 0 spare held n 3 (List.take (Tryz.prog.cellsOf 3) (List.drop 1 [c0, c1, c2, c3])) = xs[1]? := hf 1 _ rfl
  have f2 : DataW.trod enc Tryz.prog W 0 spare held n 3 (List.take (Tryz.prog.cellsOf 3) (List.drop 2 [c0, c1, c2, c3])) = xs[2]? := hf 2 _ rfl
  have f3 : DataW.trod enc Tryz.prog W 0 spare held n 27 (List.take (Tryz.prog.cellsOf 27) (List.drop 3 [c0, c1, c2, c3])) = xs[3]? := hf 3 _ rfl
  rw [cells_int] at f0 f1 f2
  rw [cells_strings] at f3
  simp only [List.drop, List.take] at f0 f1 f2 f3
  have hx : ∀ i, i < 4 → ∃ y, xs[i]? = some y := fun i hi => ⟨_, List.getElem?_eq_getElem (by simp_all)⟩
  obtain ⟨y0, e0⟩ := hx 0 (by omega)
  obtain ⟨y1, e1⟩ := hx 1 (by omega)
  obtain ⟨y2, e2⟩ := hx 2 (by omega)
  obtain ⟨y3, e3⟩ := hx 3 (by omega)
  rw [e0] at f0
  rw [e1] at f1
  rw [e2] at f2
  rw [e3] at f3
  obtain ⟨k, h0, _, w0⟩ := DataW.trod_int Tryz.underlying3 f0
  obtain ⟨m, h1, _, w1⟩ := DataW.trod_int Tryz.underlying3 f1
  obtain ⟨p, h2, _, w2⟩ := DataW.trod_int Tryz.underlying3 f2
  obtain ⟨a3, is, q3, ics, h3, s3, r3⟩ := read_slice (R := RStr) RStr.len Tryz.underlying27 cells_string (by omega) (fun j cs' y hj ht => read_string j cs' y ht) f3
  obtain ⟨rfl, hr⟩ := reps_str r3
  cases h0
  cases h1
  cases h2
  cases h3
  exact ⟨⟨k, m, p, is⟩, _, _, rfl, s3, hr⟩
end
end Rv
end Go.Proofs.YtiogfdkdhfmamaaGreatDoor
