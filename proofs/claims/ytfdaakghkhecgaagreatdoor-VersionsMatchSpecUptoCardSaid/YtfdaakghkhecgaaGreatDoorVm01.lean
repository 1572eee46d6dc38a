/- Comparisons of Go's library: cmp.Compare at ints and strings, strings.Compare, cmp.Or at two ints. strings.TrimLeft at one zero, cmp.Or at three ints, comparePre, slices.CompareFunc by comparePre. -/
import Derived.Test.YtfdaakghkhecgaaGreatDoorProg
import Derived.Test.YtfdaakghkhecgaaGreatDoorVm00
import Derived.Lib.Bytealg
namespace Go.Proofs.YtfdaakghkhecgaaGreatDoor
open Go.RowKit

def cmpI (a b : Int) : Int := if a < b then -1 else if b < a then 1 else 0
def cmpS (a b : ByteArray) : Int := Lib.compareBytes a.data.toList b.data.toList

theorem isNaN_int (a : Int) (w : World) : Calls Tryz.prog 39 #[.int .i64 a] w fun e w' => e = .returned (.bool false) ∧ w = w' := by
  go_enter Tryz.func39, Tryz.ntmps39
  go_wp2
  go_ret
  simp

set_option maxHeartbeats 1000000 in
theorem cmp_int (a b : Int) (w : World) : Calls Tryz.prog 27 #[.int .i64 a, .int .i64 b] w fun e w' => e = .returned (.int .i64 (cmpI a b)) ∧ w = w' := by
  unfold cmpI
  by_cases h1 : a < b
  · rw [if_pos h1]
    go_enter Tryz.func27, Tryz.ntmps27
    go_wp2_with (go_at_call 39; refine (isNaN_int _ _).mono ?_; rintro e w' ⟨rfl, rfl⟩)
    go_ret
    exact ⟨rfl, rfl⟩
  · rw [if_neg h1]
    by_cases h2 : b < a
    · rw [if_pos h2]
      go_enter Tryz.func27, Tryz.ntmps27
      go_wp2_with (go_at_call 39; refine (isNaN_int _ _).mono ?_; rintro e w' ⟨rfl, rfl⟩)
      go_ret
      exact ⟨rfl, rfl⟩
    · rw [if_neg h2]
      go_enter Tryz.func27, Tryz.ntmps27
      go_wp2_with (go_at_call 39; refine (isNaN_int _ _).mono ?_; rintro e w' ⟨rfl, rfl⟩)
      go_ret
      exact ⟨rfl, rfl⟩

set_option maxRecDepth 100000 in
set_option maxHeartbeats 1000000 in
theorem compareString (a b : ByteArray) (w : World) : Calls Tryz.prog 58 #[.string a, .string b] w fun e w' => e = .returned (.int .i64 (cmpS a b)) ∧ w = w' := by
  go_enter Tryz.func58, Tryz.ntmps58
  go_wp2
  rw [run_callFunc_extern Tryz.func77 (by kernel_rfl) (by kernel_rfl) (by kernel_rfl) (e := Extern.BytealgCompare.compare) (by kernel_rfl), Lib.run_compareString]
  simp only [Result.andThen]
  rw [Oper.upon_value]
  go_wp2
  go_ret
  exact ⟨rfl, rfl⟩

set_option maxHeartbeats 1000000 in
theorem strings_Compare (a b : ByteArray) (w : World) : Calls Tryz.prog 41 #[.string a, .string b] w fun e w' => e = .returned (.int .i64 (cmpS a b)) ∧ w = w' := by
  go_enter Tryz.func41, Tryz.ntmps41
  go_wp2_with (go_at_call 58; refine (compareString _ _ _).mono ?_; rintro e w' ⟨rfl, rfl⟩)
  go_ret
  exact ⟨rfl, rfl⟩

/-- '<' on the bytes of two strings, as the model has it, by compareBytes -/
theorem less_iff : ∀ (a b : List UInt8), Op.bytesLess a b = decide (Lib.compareBytes a b < 0)
  | [], [] => by simp [Op.bytesLess, Lib.compareBytes]
  | [], _ :: _ => by simp [Op.bytesLess, Lib.compareBytes]
  | _ :: _, [] => by simp [Op.bytesLess, Lib.compareBytes]
  | x :: a, y :: b => by
    have ih := less_iff a b
    simp only [Op.bytesLess, Lib.compareBytes]
    by_cases h1 : x < y
    · simp [h1]
    · by_cases h2 : y < x
      · have : (x == y) = false := by
          rw [beq_eq_false_iff_ne]; intro e; subst e; exact h1 h2
        simp [h1, h2, this]
      · have : x = y := UInt8.le_antisymm (UInt8.not_lt.1 h2) (UInt8.not_lt.1 h1)
        subst this
        simp [h1, ih]
theorem compare_self : ∀ a : List UInt8, Lib.compareBytes a a = 0
  | [] => rfl
  | x :: a => by simp [Lib.compareBytes, UInt8.lt_irrefl, compare_self a]
theorem compare_zero : ∀ {a b : List UInt8}, Lib.compareBytes a b = 0 → a = b
  | [], [], _ => rfl
  | [], _ :: _, h => by simp [Lib.compareBytes] at h
  | _ :: _, [], h => by simp [Lib.compareBytes] at h
  | x :: a, y :: b, h => by
    simp only [Lib.compareBytes] at h
    by_cases h1 : x < y
    · simp [h1] at h
    · by_cases h2 : y < x
      · simp [h1, h2] at h
      · have : x = y := UInt8.le_antisymm (UInt8.not_lt.1 h2) (UInt8.not_lt.1 h1)
        subst this
        simp [h1] at h
        rw [compare_zero h]
theorem compare_tri : ∀ (a b : List UInt8), Lib.compareBytes a b = -1 ∨ Lib.compareBytes a b = 0 ∨ Lib.compareBytes a b = 1
  | [], [] => .inr (.inl rfl)
  | [], _ :: _ => .inl rfl
  | _ :: _, [] => .inr (.inr rfl)
  | x :: a, y :: b => by
    have ih := compare_tri a b
    simp only [Lib.compareBytes]
    by_cases h1 : x < y
    · simp [h1]
    · by_cases h2 : y < x
      · simp [h1, h2]
      · simpa [h1, h2] using ih
theorem bytes_ext {a b : ByteArray} (h : a.data.toList = b.data.toList) : a = b := by
  cases a with | mk a => cases b with | mk b =>
    simp only [ByteArray.mk.injEq]
    exact Array.toList_inj.1 h
theorem cmpS_tri (a b : ByteArray) : cmpS a b = -1 ∨ cmpS a b = 0 ∨ cmpS a b = 1 := compare_tri _ _
theorem isNaN_string (a : ByteArray) (w : World) : Calls Tryz.prog 59 #[.string a] w fun e w' => e = .returned (.bool false) ∧ w = w' := by
  go_enter Tryz.func59, Tryz.ntmps59
  go_wp2
  go_ret
  simp

theorem cmpS_lt {a b : ByteArray} (h : Op.bytesLess a.toList b.toList = true) : cmpS a b = -1 := by
  rw [ByteArray.toList_eq, ByteArray.toList_eq, less_iff] at h
  have := cmpS_tri a b
  unfold cmpS at *
  simp at h; omega
theorem cmpS_eq {a b : ByteArray} (h : (!a.toList == b.toList) = false) : cmpS a b = 0 := by
  rw [ByteArray.toList_eq, ByteArray.toList_eq] at h
  have e : a.data.toList = b.data.toList := by simpa using h
  unfold cmpS; rw [e]; exact compare_self _
theorem cmpS_gt {a b : ByteArray} (h : Op.bytesLess a.toList b.toList = false) (k : (!a.toList == b.toList) = true) : cmpS a b = 1 := by
  rw [ByteArray.toList_eq, ByteArray.toList_eq] at h k
  rw [less_iff] at h
  have := cmpS_tri a b
  have hne : cmpS a b ≠ 0 := fun e => by
    have := compare_zero e
    rw [this] at k; simp at k
  unfold cmpS at *
  simp at h; omega
set_option maxHeartbeats 1000000 in
theorem cmp_string (a b : ByteArray) (w : World) : Calls Tryz.prog 43 #[.string a, .string b] w fun e w' => e = .returned (.int .i64 (cmpS a b)) ∧ w = w' := by
  go_enter Tryz.func43, Tryz.ntmps43
  go_wp2_with (go_at_call 59; refine (isNaN_string _ _).mono ?_; rintro e w' ⟨rfl, rfl⟩)
  · go_ret
    exact ⟨ret_int (cmpS_lt ‹_›).symm, rfl⟩
  · go_ret
    exact ⟨ret_int (cmpS_gt ‹Op.bytesLess _ _ = false› ‹(!_) = true›).symm, rfl⟩
  · go_ret
    exact ⟨ret_int (cmpS_eq ‹(!_) = false›).symm, rfl⟩

/-- cmp.Or at two ints: the first that is not 0 -/
def orI (a b : Int) : Int := if a = 0 then b else a
set_option maxHeartbeats 1000000 in
theorem or_two (a b : Int) (g : Nat) (w : World) (h0 : w.cell? ⟨g, 0, none⟩ = some (.int .i64 a)) (h1 : w.cell? ⟨g, 1, none⟩ = some (.int .i64 b)) : Calls Tryz.prog 26 #[.slice (some ⟨g, 0, none⟩) 2 2] w fun e w' => e = .returned (.int .i64 (orI a b)) ∧ w = w' := by
  unfold orI
  by_cases ha : a = 0
  · subst ha
    by_cases hb : b = 0
    · subst hb
      go_enter Tryz.func26, Tryz.ntmps26
      go_wp2
      go_rounds 3
      go_ret
      exact ⟨rfl, rfl⟩
    · have hb' : (b != 0) = true := by simp [hb]
      go_enter Tryz.func26, Tryz.ntmps26
      go_wp2
      go_rounds 3
      go_ret
      exact ⟨rfl, rfl⟩
  · have ha' : (a != 0) = true := by simp [ha]
    rw [if_neg ha]
    go_enter Tryz.func26, Tryz.ntmps26
    go_wp2
    go_rounds 3
    go_ret
    exact ⟨rfl, rfl⟩
end Go.Proofs.YtfdaakghkhecgaaGreatDoor
namespace Go.Proofs.YtfdaakghkhecgaaGreatDoor
open Go.RowKit
def trimZ : List UInt8 → List UInt8
  | [] => []
  | c :: l => if (c.toNat : Int) = 48 then trimZ l else c :: l
def trimA (s : ByteArray) : ByteArray := ⟨(trimZ s.data.toList).toArray⟩
theorem trimA_list (s : ByteArray) : (trimA s).data.toList = trimZ s.data.toList := by simp [trimA]
theorem ret_str {a b : ByteArray} (h : a = b) : Ending.returned (.string a) = .returned (.string b) := by rw [h]
def strLen : Value → Nat
  | .string s => s.size
  | _ => 0
theorem head_cons (s : ByteArray) (h : 0 < s.size) : s.data.toList = s[0] :: s.data.toList.drop 1 := by
  have hl : 0 < s.data.toList.length := by simpa using h
  rw [show s[0] = s.data.toList[0]'hl from rfl, ← List.drop_eq_getElem_cons hl]; simp
theorem extract_one (s : ByteArray) : (s.extract 1 s.size).data.toList = s.data.toList.drop 1 := by
  rw [Lib.extract_data, List.take_of_length_le (by rw [List.length_drop, Array.length_toList]; exact Nat.le_refl _)]
set_option maxHeartbeats 1000000 in
theorem trimLeftByte_zero (s : ByteArray) (_hs : s.size ≤ maxLen) (w : World) : Calls Tryz.prog 54 #[.string s, .int .u8 48] w fun e w' => e = .returned (.string (trimA s)) ∧ w = w' := by
  unfold maxLen at _hs
  go_enter Tryz.func54, Tryz.ntmps54
  go_wp2
  go_loop [0] (fun t => ∃ r : ByteArray, r.size ≤ s.size ∧ t = .string r ∧ Hid (trimZ s.data.toList = trimZ r.data.toList)) (fun t => strLen t)
  case atStart => exact ⟨s, Nat.le_refl _, rfl, rfl⟩
  case round =>
    obtain ⟨r, hr, rfl, HT⟩ := hrel
    by_cases h0 : 0 < r.size
    · by_cases h1 : (r[0].toNat : Int) = 48
      · have HX : Hid (trimZ s.data.toList = trimZ (r.extract 1 r.size).data.toList) := by
          have : trimZ s.data.toList = trimZ (r.extract 1 r.size).data.toList := by
            rw [HT.out, extract_one, head_cons r h0]; simp only [trimZ, if_pos h1, List.drop_succ_cons, List.drop_zero]
          exact this
        go_wp2
        go_round
        case rel => exact ⟨_, by simp [ByteArray.size_extract]; omega, rfl, HX⟩
        case measure => simp [strLen]; omega
      · have HX : Hid (r = trimA s) := by
          have : r = trimA s := bytes_ext (by rw [trimA_list, HT.out, head_cons r h0]; simp only [trimZ, if_neg h1])
          exact this
        go_wp2
        go_ret
        exact ⟨ret_str HX.out, rfl⟩
    · have HX : Hid (r = trimA s) := by
        have : r = trimA s := bytes_ext (by
          have hl : r.data.toList.length = r.size := Array.length_toList
          have e : r.data.toList = [] := List.eq_nil_of_length_eq_zero (by omega)
          rw [trimA_list, HT.out, e]; rfl)
        exact this
      go_wp2
      go_ret
      exact ⟨ret_str HX.out, rfl⟩
set_option maxRecDepth 100000 in
set_option maxHeartbeats 1000000 in
theorem trimLeft_zero (s : ByteArray) (hs : s.size ≤ maxLen) (w : World) : Calls Tryz.prog 40 #[.string s, .string ⟨#[48]⟩] w fun e w' => e = .returned (.string (trimA s)) ∧ w = w' := by
  by_cases h0 : s.data.toList = []
  · have hem : s.toList.isEmpty = true := by rw [ByteArray.toList_eq, h0]; rfl
    have HX : Hid (s = trimA s) := by
      have : s = trimA s := bytes_ext (by rw [trimA_list, h0]; rfl)
      exact this
    clear h0
    go_enter Tryz.func40, Tryz.ntmps40
    go_wp2
    go_ret
    exact ⟨ret_str HX.out, rfl⟩
  · have hem : s.toList.isEmpty = false := by rw [ByteArray.toList_eq]; simpa using h0
    clear h0
    go_enter Tryz.func40, Tryz.ntmps40
    go_wp2_with (go_at_call 54; refine (trimLeftByte_zero s hs _).mono ?_; rintro e w' ⟨rfl, rfl⟩)
    go_ret
    exact ⟨rfl, rfl⟩

set_option maxHeartbeats 1000000 in
theorem or_three (a b c : Int) (g : Nat) (w : World) (h0 : w.cell? ⟨g, 0, none⟩ = some (.int .i64 a)) (h1 : w.cell? ⟨g, 1, none⟩ = some (.int .i64 b)) (h2 : w.cell? ⟨g, 2, none⟩ = some (.int .i64 c)) : Calls Tryz.prog 26 #[.slice (some ⟨g, 0, none⟩) 3 3] w fun e w' => e = .returned (.int .i64 (orI a (orI b c))) ∧ w = w' := by
  unfold orI
  by_cases ha : a = 0
  · subst ha
    by_cases hb : b = 0
    · subst hb
      by_cases hc : c = 0
      · subst hc
        go_enter Tryz.func26, Tryz.ntmps26
        go_wp2
        go_rounds 4
        go_ret
        exact ⟨rfl, rfl⟩
      · have hc' : (c != 0) = true := by simp [hc]
        go_enter Tryz.func26, Tryz.ntmps26
        go_wp2
        go_rounds 4
        go_ret
        exact ⟨rfl, rfl⟩
    · have hb' : (b != 0) = true := by simp [hb]
      rw [if_pos rfl, if_neg hb]
      go_enter Tryz.func26, Tryz.ntmps26
      go_wp2
      go_rounds 4
      go_ret
      exact ⟨rfl, rfl⟩
  · have ha' : (a != 0) = true := by simp [ha]
    rw [if_neg ha]
    go_enter Tryz.func26, Tryz.ntmps26
    go_wp2
    go_rounds 4
    go_ret
    exact ⟨rfl, rfl⟩
def numB (l : List UInt8) : Bool := !l.isEmpty && digsB l
def numP (a b : ByteArray) : Int := orI (cmpI ((trimA a).size : Int) ((trimA b).size : Int)) (cmpS (trimA a) (trimA b))
def cmpP (a b : ByteArray) : Int := if numB a.data.toList = true then (if numB b.data.toList = true then numP a b else -1) else if numB b.data.toList = true then 1 else cmpS a b
/-- what the walk knows of one side -/
theorem num_true {s : ByteArray} (h : numB s.data.toList = true) : (s.toList.isEmpty = false) ∧ digsB s.data.toList = true := by
  unfold numB at h; rw [ByteArray.toList_eq]; simpa using h
theorem num_false {s : ByteArray} (h : ¬ numB s.data.toList = true) : (s.toList.isEmpty = true) ∨ (s.toList.isEmpty = false ∧ digsB s.data.toList = false) := by
  unfold numB at h; rw [ByteArray.toList_eq]
  cases h1 : s.data.toList.isEmpty
  · right; rw [h1] at h; simpa using h
  · left; rfl
set_option maxHeartbeats 4000000 in
theorem comparePre_at (a b : ByteArray) (ha : a.size ≤ maxLen) (hb : b.size ≤ maxLen) (w : World) : Calls Tryz.prog 29 #[.string a, .string b] w fun e w' => e = .returned (.int .i64 (cmpP a b)) ∧ Below w.heap.size w w' := by
  have key : ∀ (N : Int), (cmpP a b = N) → Calls Tryz.prog 29 #[.string a, .string b] w fun e w' => e = .returned (.int .i64 N) ∧ Below w.heap.size w w' := by
    intro N hN
    by_cases h1 : numB a.data.toList = true
    · obtain ⟨e1, d1⟩ := num_true h1
      by_cases h2 : numB b.data.toList = true
      · obtain ⟨e2, d2⟩ := num_true h2
        have HN : Hid (numP a b = N) := by
          have : numP a b = N := by rw [← hN]; unfold cmpP; rw [if_pos h1, if_pos h2]
          exact this
        clear hN h1 h2
        go_enter Tryz.func29, Tryz.ntmps29
        go_wp2_with fail
        refine (value_allDigits a ha _).mono ?_
        rw [d1]
        rintro e w' ⟨rfl, rfl⟩
        go_wp2_with fail
        refine (value_allDigits b hb _).mono ?_
        rw [d2]
        rintro e w' ⟨rfl, rfl⟩
        clear d1 d2 e1 e2
        go_wp2_with (first | (go_at_call 40; refine (trimLeft_zero _ (by assumption) _).mono ?_; rintro e w' ⟨rfl, rfl⟩) | (go_at_call 27; refine (cmp_int _ _ _).mono ?_; rintro e w' ⟨rfl, rfl⟩) | (go_at_call 41; refine (strings_Compare _ _ _).mono ?_; rintro e w' ⟨rfl, rfl⟩))
        refine (or_two _ _ _ _ (by simp; rfl) (by simp; rfl)).mono ?_
        rintro e w' ⟨rfl, rfl⟩
        go_wp2
        go_ret
        exact ⟨ret_int HN.out, by go_grown⟩
      · have HN : Hid (-1 = N) := by
          have : -1 = N := by rw [← hN]; unfold cmpP; rw [if_pos h1, if_neg h2]
          exact this
        clear hN h1
        rcases num_false h2 with e2 | ⟨e2, d2⟩
        · clear h2
          go_enter Tryz.func29, Tryz.ntmps29
          go_wp2_with fail
          refine (value_allDigits a ha _).mono ?_
          rw [d1]
          rintro e w' ⟨rfl, rfl⟩
          go_wp2
          go_ret
          exact ⟨ret_int HN.out, Below.refl _ _⟩
        · clear h2
          go_enter Tryz.func29, Tryz.ntmps29
          go_wp2_with fail
          refine (value_allDigits a ha _).mono ?_
          rw [d1]
          rintro e w' ⟨rfl, rfl⟩
          go_wp2_with fail
          refine (value_allDigits b hb _).mono ?_
          rw [d2]
          rintro e w' ⟨rfl, rfl⟩
          go_wp2
          go_ret
          exact ⟨ret_int HN.out, Below.refl _ _⟩
    · by_cases h2 : numB b.data.toList = true
      · obtain ⟨e2, d2⟩ := num_true h2
        have HN : Hid (1 = N) := by
          have : 1 = N := by rw [← hN]; unfold cmpP; rw [if_neg h1, if_pos h2]
          exact this
        clear hN h2
        rcases num_false h1 with e1 | ⟨e1, d1⟩
        · clear h1
          go_enter Tryz.func29, Tryz.ntmps29
          go_wp2_with fail
          refine (value_allDigits b hb _).mono ?_
          rw [d2]
          rintro e w' ⟨rfl, rfl⟩
          go_wp2
          go_ret
          exact ⟨ret_int HN.out, Below.refl _ _⟩
        · clear h1
          go_enter Tryz.func29, Tryz.ntmps29
          go_wp2_with fail
          refine (value_allDigits a ha _).mono ?_
          rw [d1]
          rintro e w' ⟨rfl, rfl⟩
          go_wp2_with fail
          refine (value_allDigits b hb _).mono ?_
          rw [d2]
          rintro e w' ⟨rfl, rfl⟩
          go_wp2
          go_ret
          exact ⟨ret_int HN.out, Below.refl _ _⟩
      · have HN : Hid (cmpS a b = N) := by
          have : cmpS a b = N := by rw [← hN]; unfold cmpP; rw [if_neg h1, if_neg h2]
          exact this
        clear hN
        rcases num_false h1 with e1 | ⟨e1, d1⟩
        · rcases num_false h2 with e2 | ⟨e2, d2⟩
          · clear h1 h2
            go_enter Tryz.func29, Tryz.ntmps29
            go_wp2_with (go_at_call 41; refine (strings_Compare _ _ _).mono ?_; rintro e w' ⟨rfl, rfl⟩)
            go_ret
            exact ⟨ret_int HN.out, Below.refl _ _⟩
          · clear h1 h2
            go_enter Tryz.func29, Tryz.ntmps29
            go_wp2_with fail
            refine (value_allDigits b hb _).mono ?_
            rw [d2]
            rintro e w' ⟨rfl, rfl⟩
            go_wp2_with (go_at_call 41; refine (strings_Compare _ _ _).mono ?_; rintro e w' ⟨rfl, rfl⟩)
            go_ret
            exact ⟨ret_int HN.out, Below.refl _ _⟩
        · rcases num_false h2 with e2 | ⟨e2, d2⟩
          · clear h1 h2
            go_enter Tryz.func29, Tryz.ntmps29
            go_wp2_with fail
            refine (value_allDigits a ha _).mono ?_
            rw [d1]
            rintro e w' ⟨rfl, rfl⟩
            go_wp2_with (go_at_call 41; refine (strings_Compare _ _ _).mono ?_; rintro e w' ⟨rfl, rfl⟩)
            go_ret
            exact ⟨ret_int HN.out, Below.refl _ _⟩
          · clear h1 h2
            go_enter Tryz.func29, Tryz.ntmps29
            go_wp2_with fail
            refine (value_allDigits a ha _).mono ?_
            rw [d1]
            rintro e w' ⟨rfl, rfl⟩
            go_wp2_with fail
            refine (value_allDigits b hb _).mono ?_
            rw [d2]
            rintro e w' ⟨rfl, rfl⟩
            go_wp2_with (go_at_call 41; refine (strings_Compare _ _ _).mono ?_; rintro e w' ⟨rfl, rfl⟩)
            go_ret
            exact ⟨ret_int HN.out, Below.refl _ _⟩
  exact key _ rfl

def cmpPs : List ByteArray → List ByteArray → Int
  | [], [] => 0
  | [], _ :: _ => -1
  | _ :: _, [] => 1
  | x :: xs, y :: ys => orI (cmpP x y) (cmpPs xs ys)
def strs (l : List ByteArray) : List Value := l.map Value.string
theorem strs_get {l : List ByteArray} {k : Nat} (h : k < l.length) : (strs l)[k]? = some (.string l[k]) := by simp [strs, h]
theorem drop_nil' {α : Type} (l : List α) (k : Nat) (h : l.length ≤ k) : l.drop k = [] := List.drop_eq_nil_of_le h
theorem drop_cons' {α : Type} {l : List α} {k : Nat} (hk : k < l.length) : l.drop k = l[k] :: l.drop (k + 1) := List.drop_eq_getElem_cons hk
theorem Sl.addr {w : World} {a : Option Addr} {n c : Nat} {cs : List Value} (h : Sl w (.slice a n c) n cs) {k : Nat} {x : Value} (hk : cs[k]? = some x) : ∃ b o, a = some ⟨b, o, none⟩ ∧ w.cell? ⟨b, o + k, none⟩ = some x := by
  obtain ⟨a', cap, hv, _, _, _, h3⟩ := h
  cases hv
  exact h3 _ _ hk
theorem Sl.len63 {w : World} {a : Option Addr} {n c : Nat} {cs : List Value} (h : Sl w (.slice a n c) n cs) : n ≤ 9223372036854775807 := by
  obtain ⟨_, _, hv, h1, h2, _⟩ := h; cases hv; unfold maxLen at h2; omega
set_option maxHeartbeats 2000000 in
theorem compareFunc_pre (is is' : List ByteArray) (a a' : Option Addr) (c c' : Nat) (w : World)
    (s1 : Sl w (.slice a is.length c) is.length (strs is)) (s2 : Sl w (.slice a' is'.length c') is'.length (strs is'))
    (h1 : ∀ x ∈ is, x.size ≤ maxLen) (h2 : ∀ x ∈ is', x.size ≤ maxLen) :
    Calls Tryz.prog 28 #[.slice a is.length c, .slice a' is'.length c', .func (.func 29) #[] #[]] w fun e w' => e = .returned (.int .i64 (cmpPs is is')) ∧ Below w.heap.size w w' := by
  have H1 := Lib.hid h1
  have H2 := Lib.hid h2
  have hl1 := s1.len63
  have hl2 := s2.len63
  clear h1 h2
  go_enter Tryz.func28, Tryz.ntmps28
  go_wp2
  go_loopw [13] (fun i wr => ∃ k : Nat, k ≤ is.length ∧ k ≤ is'.length ∧ i = .int .i64 k ∧ Hid (cmpPs is is' = cmpPs (is.drop k) (is'.drop k)) ∧ Below w.heap.size w wr) (fun i _ => is.length - (intOf i).toNat)
  case atStart => exact ⟨0, by omega, by omega, rfl, rfl, Below.refl _ _⟩
  case round =>
    obtain ⟨k, hk, hk', rfl, HC, hb⟩ := hrel
    by_cases hlt : k < is.length
    · obtain ⟨b, o, rfl, e0⟩ := (s1.ext hb).addr (strs_get hlt)
      by_cases hlt' : k < is'.length
      · obtain ⟨b', o', rfl, f0⟩ := (s2.ext hb).addr (strs_get hlt')
        go_wp2_with fail
        refine (comparePre_at is[k] is'[k] (H1.out _ (List.getElem_mem _)) (H2.out _ (List.getElem_mem _)) _).mono ?_
        rintro e w2 ⟨rfl, hb2⟩
        have hbw : Below w.heap.size w w2 := ext_trans hb hb2
        have hor : cmpPs is is' = orI (cmpP is[k] is'[k]) (cmpPs (is.drop (k + 1)) (is'.drop (k + 1))) := by
          rw [HC.out, drop_cons' hlt, drop_cons' hlt']; simp only [cmpPs]
        have HO := Lib.hid hor
        clear hor hb2
        generalize hz : cmpP is[k] is'[k] = z at *
        by_cases hz0 : z = 0
        · have hne : (z != 0) = false := by simp [hz0]
          have HZ := Lib.hid hz0
          clear hz hz0
          go_wp2
          go_roundw
          case rel => exact ⟨k + 1, by omega, by omega, by go_num, (by have := HO.out; rw [HZ.out] at this; exact this), hbw⟩
          case measure => simp [intOf]; omega
        · have hne : (z != 0) = true := by simp [hz0]
          clear hz
          have hfin : cmpPs is is' = z := by rw [HO.out]; unfold orI; rw [if_neg hz0]
          have HN := Lib.hid hfin
          clear hfin hz0
          go_wp2
          go_ret
          exact ⟨ret_int HN.out.symm, hbw⟩
      · have hfin : cmpPs is is' = 1 := by
          rw [HC.out, drop_cons' hlt, drop_nil' is' k (by omega)]; simp only [cmpPs]
        have HN := Lib.hid hfin
        clear hfin
        go_wp2
        go_ret
        exact ⟨ret_int HN.out.symm, hb⟩
    · by_cases hlt' : is.length < is'.length
      · have hfin : cmpPs is is' = -1 := by
          rw [HC.out, drop_nil' is k (by omega), drop_cons' (show k < is'.length by omega)]; simp only [cmpPs]
        have HN := Lib.hid hfin
        clear hfin
        go_wp2
        go_ret
        exact ⟨ret_int HN.out.symm, hb⟩
      · have hfin : cmpPs is is' = 0 := by
          rw [HC.out, drop_nil' is k (by omega), drop_nil' is' k (by omega)]; simp only [cmpPs]
        have HN := Lib.hid hfin
        clear hfin
        go_wp2
        go_ret
        exact ⟨ret_int HN.out.symm, hb⟩
end Go.Proofs.YtfdaakghkhecgaaGreatDoor
