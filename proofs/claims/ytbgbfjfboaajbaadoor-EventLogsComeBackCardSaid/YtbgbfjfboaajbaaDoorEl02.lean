/- Plain: an event's text, written and read; what is read is written so, and the other way round. No program stands in it. Comparisons of Go's library: cmp.Compare at ints and strings, strings.Compare, cmp.Or at two ints. The order of events. How many shards a log has: event.shards and the reference's shards. -/
import Derived.Test.YtbgbfjfboaajbaaDoorEl01
import Derived.Test.YtbgbfjfboaajbaaDoorProg
import Derived.Test.YtbgbfjfboaajbaaDoorEl00
import Derived.Lib.Bytealg
import Derived.Deep.QuietTactic
import Derived.BigQuiet
namespace Go.Proofs.YtbgbfjfboaajbaaDoor
namespace Tx
open Nm
def bs (l : List UInt8) : ByteArray := ⟨l.toArray⟩
theorem bs_data (s : ByteArray) : bs s.data.toList = s := by
  obtain ⟨⟨l⟩⟩ := s; rfl
def expL : List UInt8 := [101, 120, 112, 111, 115, 117, 114, 101]
def outL : List UInt8 := [111, 117, 116, 99, 111, 109, 101]
def markL : List UInt8 := [109, 97, 114, 107]
/-- the words of an event's text -/
def wordsE (e : Ev) : List (List UInt8) :=
  [e.shard.data.toList, itoaS e.number, itoaS e.time] ++
    (if e.kind = 1 then [expL, e.key.data.toList, e.name.data.toList, itoaS e.arm]
     else if e.kind = 2 then [outL, e.key.data.toList, e.name.data.toList, itoaS e.n] else [markL])
def showE (e : Ev) : List UInt8 := joinL 32 (wordsE e)
def read4 (a b c d : List UInt8) : Option Ev :=
  (numO b).bind fun n => (numO c).bind fun t => if wordsB a = true ∧ d = markL then some ⟨bs a, n, 3, t, bs [], bs [], 0, 0⟩ else none
def read7 (a b c d k m z : List UInt8) : Option Ev :=
  (numO b).bind fun n => (numO c).bind fun t => (numO z).bind fun x =>
    if wordsB a = true ∧ seenB k = true ∧ wordsB m = true then
      (if d = expL then some ⟨bs a, n, 1, t, bs k, bs m, x, 0⟩ else if d = outL then some ⟨bs a, n, 2, t, bs k, bs m, 0, x⟩ else none)
    else none
def readW : List (List UInt8) → Option Ev
  | [a, b, c, d] => read4 a b c d
  | [a, b, c, d, k, m, z] => read7 a b c d k m z
  | _ => none
def readO (l : List UInt8) : Option Ev := readW (cutL 32 l)
theorem cut_join {c : UInt8} : ∀ {l : List (List UInt8)}, l ≠ [] → (∀ x ∈ l, c ∉ x) → cutL c (joinL c l) = l
  | [], h, _ => absurd rfl h
  | [x], _, h => cutL_none (h x (by simp))
  | x :: y :: r, _, h => by
    show cutL c (x ++ c :: joinL c (y :: r)) = _
    rw [cutL_app (h x (by simp)), cut_join (by simp) (fun z hz => h z (List.mem_cons_of_mem _ hz))]
/-- what Check lets through -/
structure RightE (e : Ev) : Prop where
  shard : nameB e.shard.data.toList = true
  number : 1 ≤ e.number ∧ e.number ≤ 1000000000000
  time : 0 ≤ e.time ∧ e.time ≤ 4000000000
  kind : (e.kind = 3 ∧ e.key = bs [] ∧ e.name = bs [] ∧ e.arm = 0 ∧ e.n = 0) ∨
    (e.kind = 1 ∧ keyB e.key.data.toList = true ∧ nameB e.name.data.toList = true ∧ (0 ≤ e.arm ∧ e.arm ≤ 19) ∧ e.n = 0) ∨
    (e.kind = 2 ∧ keyB e.key.data.toList = true ∧ nameB e.name.data.toList = true ∧ e.arm = 0 ∧ (-1000000000000 ≤ e.n ∧ e.n ≤ 1000000000000))
theorem within_iff {n a b : Int} : withinB n a b = true ↔ a ≤ n ∧ n ≤ b := by unfold withinB; rw [decide_eq_true_eq]
theorem empty_bs {s : ByteArray} (h : s.toList.isEmpty = true) : s = bs [] := by
  rw [ByteArray.toList_eq, List.isEmpty_iff] at h
  rw [← bs_data s, h]
theorem rightE_of {e : Ev} (h : checkE e = 0) : RightE e := by
  unfold checkE at h
  by_cases h1 : nameB e.shard.data.toList = false
  · rw [if_pos h1] at h; cases h
  rw [if_neg h1] at h
  by_cases h2 : withinB e.number 1 1000000000000 = false
  · rw [if_pos h2] at h; cases h
  rw [if_neg h2] at h
  by_cases h3 : withinB e.kind 1 3 = false
  · rw [if_pos h3] at h; cases h
  rw [if_neg h3] at h
  by_cases h4 : withinB e.time 0 4000000000 = false
  · rw [if_pos h4] at h; cases h
  rw [if_neg h4] at h
  have h1' : nameB e.shard.data.toList = true := by simpa using h1
  have h2' := within_iff.1 (show withinB e.number 1 1000000000000 = true by simpa using h2)
  have h3' := within_iff.1 (show withinB e.kind 1 3 = true by simpa using h3)
  have h4' := within_iff.1 (show withinB e.time 0 4000000000 = true by simpa using h4)
  refine ⟨h1', h2', h4', ?_⟩
  by_cases h5 : e.kind = 3
  · rw [if_pos h5] at h
    by_cases h6 : e.key.toList.isEmpty = true ∧ e.name.toList.isEmpty = true ∧ e.arm = 0 ∧ e.n = 0
    · exact .inl ⟨h5, empty_bs h6.1, empty_bs h6.2.1, h6.2.2.1, h6.2.2.2⟩
    · rw [if_neg h6] at h; cases h
  · rw [if_neg h5] at h
    by_cases h6 : keyB e.key.data.toList = false
    · rw [if_pos h6] at h; cases h
    rw [if_neg h6] at h
    by_cases h7 : nameB e.name.data.toList = false
    · rw [if_pos h7] at h; cases h
    rw [if_neg h7] at h
    have h6' : keyB e.key.data.toList = true := by simpa using h6
    have h7' : nameB e.name.data.toList = true := by simpa using h7
    by_cases h8 : e.kind = 1
    · rw [if_pos h8] at h
      by_cases h9 : withinB e.arm 0 19 = false
      · rw [if_pos h9] at h; cases h
      rw [if_neg h9] at h
      by_cases h10 : e.n ≠ 0
      · rw [if_pos h10] at h; cases h
      exact .inr (.inl ⟨h8, h6', h7', within_iff.1 (by simpa using h9), by omega⟩)
    · rw [if_neg h8] at h
      by_cases h9 : e.arm ≠ 0
      · rw [if_pos h9] at h; cases h
      rw [if_neg h9] at h
      by_cases h10 : withinB e.n (-1000000000000) 1000000000000 = false
      · rw [if_pos h10] at h; cases h
      exact .inr (.inr ⟨by omega, h6', h7', by omega, within_iff.1 (by simpa using h10)⟩)
theorem word_free {l : List UInt8} (h : l.all wordC = true) : (32 : UInt8) ∉ l := fun hm => by
  have := (List.all_eq_true.1 h) _ hm
  exact absurd this (by decide)
theorem seen_free {l : List UInt8} (h : l.all seenC = true) : (32 : UInt8) ∉ l := fun hm => by
  have := (List.all_eq_true.1 h) _ hm
  exact absurd this (by decide)
theorem name_words {l : List UInt8} (h : nameB l = true) : wordsB l = true ∧ l.all wordC = true ∧ l.length ≤ 40 := by
  unfold nameB at h
  rw [Bool.and_eq_true, Bool.and_eq_true, decide_eq_true_eq] at h
  refine ⟨?_, h.2, h.1.1.2⟩
  unfold wordsB
  rw [h.2]
  cases l with
  | nil => exact absurd h.1.1.1 (by simp)
  | cons _ _ => rfl
theorem key_seen {l : List UInt8} (h : keyB l = true) : seenB l = true ∧ l.all seenC = true ∧ l.length ≤ 100 := by
  unfold keyB at h
  rw [Bool.and_eq_true, decide_eq_true_eq] at h
  refine ⟨?_, h.1, h.2.2⟩
  unfold seenB
  rw [h.1]
  cases l with
  | nil => exact absurd h.2.1 (by simp)
  | cons _ _ => rfl
theorem itoa_free (v : Int) : (32 : UInt8) ∉ itoaS v := fun hm => by
  rcases itoaS_bytes _ hm with h | h
  · exact absurd h (by decide)
  · exact absurd h.1 (by decide)
theorem wordsE_free {e : Ev} (h : RightE e) : ∀ x ∈ wordsE e, (32 : UInt8) ∉ x := by
  have hs := word_free (name_words h.shard).2.1
  unfold wordsE
  rcases h.kind with ⟨hk, _⟩ | ⟨hk, h1, h2, _⟩ | ⟨hk, h1, h2, _⟩
  · rw [hk, if_neg (by decide), if_neg (by decide)]
    intro x hx
    simp only [List.cons_append, List.nil_append, List.mem_cons, List.not_mem_nil, or_false] at hx
    rcases hx with rfl | rfl | rfl | rfl
    · exact hs
    · exact itoa_free _
    · exact itoa_free _
    · decide
  · rw [hk, if_pos rfl]
    intro x hx
    simp only [List.cons_append, List.nil_append, List.mem_cons, List.not_mem_nil, or_false] at hx
    rcases hx with rfl | rfl | rfl | rfl | rfl | rfl | rfl
    · exact hs
    · exact itoa_free _
    · exact itoa_free _
    · decide
    · exact seen_free (key_seen h1).2.1
    · exact word_free (name_words h2).2.1
    · exact itoa_free _
  · rw [hk, if_neg (by decide), if_pos rfl]
    intro x hx
    simp only [List.cons_append, List.nil_append, List.mem_cons, List.not_mem_nil, or_false] at hx
    rcases hx with rfl | rfl | rfl | rfl | rfl | rfl | rfl
    · exact hs
    · exact itoa_free _
    · exact itoa_free _
    · decide
    · exact seen_free (key_seen h1).2.1
    · exact word_free (name_words h2).2.1
    · exact itoa_free _
/-- what is written is read so -/
theorem read_show {e : Ev} (h : RightE e) : readO (showE e) = some e := by
  unfold readO showE
  rw [cut_join (by unfold wordsE; simp) (wordsE_free h)]
  have hn := num_itoa (v := e.number) (by have := h.number; omega)
  have ht := num_itoa (v := e.time) (by have := h.time; omega)
  have hs := (name_words h.shard).1
  unfold wordsE
  rcases h.kind with ⟨hk, h1, h2, h3, h4⟩ | ⟨hk, h1, h2, h3, h4⟩ | ⟨hk, h1, h2, h3, h4⟩
  · rw [hk, if_neg (by decide), if_neg (by decide)]
    show read4 e.shard.data.toList (itoaS e.number) (itoaS e.time) markL = _
    unfold read4
    rw [hn, ht]
    show (if wordsB e.shard.data.toList = true ∧ markL = markL then _ else none) = _
    rw [if_pos ⟨hs, rfl⟩, bs_data, ← h1, ← hk]
    obtain ⟨a, b, c, d, k, m, x, y⟩ := e
    simp only at *
    subst h1; subst h2; subst h3; subst h4; rfl
  · have hx := num_itoa (v := e.arm) (by omega)
    rw [hk, if_pos rfl]
    show read7 e.shard.data.toList (itoaS e.number) (itoaS e.time) expL e.key.data.toList e.name.data.toList (itoaS e.arm) = _
    unfold read7
    rw [hn, ht, hx]
    show (if _ ∧ _ then (if expL = expL then _ else _) else none) = _
    rw [if_pos ⟨hs, (key_seen h1).1, (name_words h2).1⟩, if_pos rfl, bs_data, bs_data, bs_data]
    obtain ⟨a, b, c, d, k, m, x, y⟩ := e
    simp only at *
    subst hk; subst h4; rfl
  · have hx := num_itoa (v := e.n) (by omega)
    rw [hk, if_neg (by decide), if_pos rfl]
    show read7 e.shard.data.toList (itoaS e.number) (itoaS e.time) outL e.key.data.toList e.name.data.toList (itoaS e.n) = _
    unfold read7
    rw [hn, ht, hx]
    show (if _ ∧ _ then (if outL = expL then _ else if outL = outL then _ else _) else none) = _
    rw [if_pos ⟨hs, (key_seen h1).1, (name_words h2).1⟩, if_neg (by decide), if_pos rfl, bs_data, bs_data, bs_data]
    obtain ⟨a, b, c, d, k, m, x, y⟩ := e
    simp only at *
    subst hk; subst h3; rfl
theorem show_len {e : Ev} (h : RightE e) : (showE e).length ≤ 300 := by
  have hs := (name_words h.shard).2.2
  have hn := itoaS_length (v := e.number) (by have := h.number; omega)
  have ht := itoaS_length (v := e.time) (by have := h.time; omega)
  unfold showE wordsE
  rcases h.kind with ⟨hk, h1, h2, h3, h4⟩ | ⟨hk, h1, h2, h3, h4⟩ | ⟨hk, h1, h2, h3, h4⟩
  · rw [hk, if_neg (by decide), if_neg (by decide)]
    simp only [List.cons_append, List.nil_append, joinL, List.length_append, List.length_cons, markL, List.length_nil]
    omega
  · have hx := itoaS_length (v := e.arm) (by omega)
    have h5 := (key_seen h1).2.2
    have h6 := (name_words h2).2.2
    rw [hk, if_pos rfl]
    simp only [List.cons_append, List.nil_append, joinL, List.length_append, List.length_cons, expL]
    omega
  · have hx := itoaS_length (v := e.n) (by omega)
    have h5 := (key_seen h1).2.2
    have h6 := (name_words h2).2.2
    rw [hk, if_neg (by decide), if_pos rfl]
    simp only [List.cons_append, List.nil_append, joinL, List.length_append, List.length_cons, outL]
    omega
end Tx
end Go.Proofs.YtbgbfjfboaajbaaDoor
namespace Go.Proofs.YtbgbfjfboaajbaaDoor
open Go.RowKit

def cmpI (a b : Int) : Int := if a < b then -1 else if b < a then 1 else 0
def cmpS (a b : ByteArray) : Int := Lib.compareBytes a.data.toList b.data.toList

theorem isNaN_int (a : Int) (w : World) : Calls Tryd.prog 55 #[.int .i64 a] w fun e w' => e = .returned (.bool false) ∧ w = w' := by
  go_enter Tryd.func55, Tryd.ntmps55
  go_wp2
  go_ret
  simp

set_option maxHeartbeats 1000000 in
theorem cmp_int (a b : Int) (w : World) : Calls Tryd.prog 41 #[.int .i64 a, .int .i64 b] w fun e w' => e = .returned (.int .i64 (cmpI a b)) ∧ w = w' := by
  unfold cmpI
  by_cases h1 : a < b
  · rw [if_pos h1]
    go_enter Tryd.func41, Tryd.ntmps41
    go_wp2_with (go_at_call 55; refine (isNaN_int _ _).mono ?_; rintro e w' ⟨rfl, rfl⟩)
    go_ret
    exact ⟨rfl, rfl⟩
  · rw [if_neg h1]
    by_cases h2 : b < a
    · rw [if_pos h2]
      go_enter Tryd.func41, Tryd.ntmps41
      go_wp2_with (go_at_call 55; refine (isNaN_int _ _).mono ?_; rintro e w' ⟨rfl, rfl⟩)
      go_ret
      exact ⟨rfl, rfl⟩
    · rw [if_neg h2]
      go_enter Tryd.func41, Tryd.ntmps41
      go_wp2_with (go_at_call 55; refine (isNaN_int _ _).mono ?_; rintro e w' ⟨rfl, rfl⟩)
      go_ret
      exact ⟨rfl, rfl⟩

set_option maxRecDepth 100000 in
set_option maxHeartbeats 1000000 in
theorem compareString (a b : ByteArray) (w : World) : Calls Tryd.prog 54 #[.string a, .string b] w fun e w' => e = .returned (.int .i64 (cmpS a b)) ∧ w = w' := by
  go_enter Tryd.func54, Tryd.ntmps54
  go_wp2
  rw [run_callFunc_extern Tryd.func67 (by kernel_rfl) (by kernel_rfl) (by kernel_rfl) (e := Extern.BytealgCompare.compare) (by kernel_rfl), Lib.run_compareString]
  simp only [Result.andThen]
  rw [Oper.upon_value]
  go_wp2
  go_ret
  exact ⟨rfl, rfl⟩

set_option maxHeartbeats 1000000 in
theorem strings_Compare (a b : ByteArray) (w : World) : Calls Tryd.prog 40 #[.string a, .string b] w fun e w' => e = .returned (.int .i64 (cmpS a b)) ∧ w = w' := by
  go_enter Tryd.func40, Tryd.ntmps40
  go_wp2_with (go_at_call 54; refine (compareString _ _ _).mono ?_; rintro e w' ⟨rfl, rfl⟩)
  go_ret
  exact ⟨rfl, rfl⟩

/-- '<' on the bytes of two strings, as the model has it, by compareBytes -/
theorem less_iff : ∀ (a b : List UInt8), Op.bytesLess a b = decide (Lib.compareBytes a b < 0)
  | [], [] => by simp [Op.bytesLess, Lib.compareBytes]
  | [], _ :: _ => by simp [Op.bytesLess, Lib.compareBytes]
  | _ :: _, [] => by simp [Op.bytesLess, Lib.compareBytes]
  | x :: a, y :: b => by
    have ih := less_iff a b
    simp only [Op.bytesLess, Lib.compareBytes]
    by_cases h1 : x < y
    · simp [h1]
    · by_cases h2 : y < x
      · have : (x == y) = false := by
          rw [beq_eq_false_iff_ne]; intro e; subst e; exact h1 h2
        simp [h1, h2, this]
      · have : x = y := UInt8.le_antisymm (UInt8.not_lt.1 h2) (UInt8.not_lt.1 h1)
        subst this
        simp [h1, ih]
theorem compare_self : ∀ a : List UInt8, Lib.compareBytes a a = 0
  | [] => rfl
  | x :: a => by simp [Lib.compareBytes, UInt8.lt_irrefl, compare_self a]
theorem compare_zero : ∀ {a b : List UInt8}, Lib.compareBytes a b = 0 → a = b
  | [], [], _ => rfl
  | [], _ :: _, h => by simp [Lib.compareBytes] at h
  | _ :: _, [], h => by simp [Lib.compareBytes] at h
  | x :: a, y :: b, h => by
    simp only [Lib.compareBytes] at h
    by_cases h1 : x < y
    · simp [h1] at h
    · by_cases h2 : y < x
      · simp [h1, h2] at h
      · have : x = y := UInt8.le_antisymm (UInt8.not_lt.1 h2) (UInt8.not_lt.1 h1)
        subst this
        simp [h1] at h
        rw [compare_zero h]
theorem compare_anti : ∀ (a b : List UInt8), Lib.compareBytes b a = - Lib.compareBytes a b
  | [], [] => rfl
  | [], _ :: _ => rfl
  | _ :: _, [] => rfl
  | x :: a, y :: b => by
    have ih := compare_anti a b
    simp only [Lib.compareBytes]
    by_cases h1 : x < y
    · have h2 : ¬ y < x := fun h => UInt8.lt_irrefl _ (UInt8.lt_trans h1 h)
      simp [h1, h2]
    · by_cases h2 : y < x
      · simp [h1, h2]
      · simp [h1, h2, ih]
theorem compare_tri : ∀ (a b : List UInt8), Lib.compareBytes a b = -1 ∨ Lib.compareBytes a b = 0 ∨ Lib.compareBytes a b = 1
  | [], [] => .inr (.inl rfl)
  | [], _ :: _ => .inl rfl
  | _ :: _, [] => .inr (.inr rfl)
  | x :: a, y :: b => by
    have ih := compare_tri a b
    simp only [Lib.compareBytes]
    by_cases h1 : x < y
    · simp [h1]
    · by_cases h2 : y < x
      · simp [h1, h2]
      · simpa [h1, h2] using ih
theorem compare_trans : ∀ {a b c : List UInt8}, Lib.compareBytes a b ≤ 0 → Lib.compareBytes b c ≤ 0 → Lib.compareBytes a c ≤ 0
  | [], _, [], _, _ => by simp [Lib.compareBytes]
  | [], _, _ :: _, _, _ => by simp [Lib.compareBytes]
  | _ :: _, [], _, h, _ => by simp [Lib.compareBytes] at h
  | _ :: _, _ :: _, [], _, h => by simp [Lib.compareBytes] at h
  | x :: a, y :: b, z :: c, h, k => by
    simp only [Lib.compareBytes] at h k ⊢
    by_cases h1 : x < y
    · by_cases k1 : y < z
      · simp [UInt8.lt_trans h1 k1]
      · by_cases k2 : z < y
        · simp [k1, k2] at k
        · have : y = z := UInt8.le_antisymm (UInt8.not_lt.1 k2) (UInt8.not_lt.1 k1)
          subst this; simp [h1]
    · by_cases h2 : y < x
      · simp [h1, h2] at h
      · have : x = y := UInt8.le_antisymm (UInt8.not_lt.1 h2) (UInt8.not_lt.1 h1)
        subst this
        simp only [h1, if_false] at h
        by_cases k1 : x < z
        · simp [k1]
        · by_cases k2 : z < x
          · simp [k1, k2] at k
          · simp only [k1, k2, if_false] at k ⊢
            exact compare_trans h k

theorem cmpI_self (a : Int) : cmpI a a = 0 := by unfold cmpI; simp
theorem cmpI_anti (a b : Int) : cmpI b a = - cmpI a b := by unfold cmpI; split <;> split <;> simp_all <;> omega
theorem cmpI_trans {a b c : Int} (h : cmpI a b ≤ 0) (k : cmpI b c ≤ 0) : cmpI a c ≤ 0 := by
  unfold cmpI at *
  by_cases h1 : a < b <;> by_cases h2 : b < a <;> by_cases k1 : b < c <;> by_cases k2 : c < b <;> by_cases l1 : a < c <;> by_cases l2 : c < a <;> simp_all <;> omega

theorem bytes_ext {a b : ByteArray} (h : a.data.toList = b.data.toList) : a = b := by
  cases a with | mk a => cases b with | mk b =>
    simp only [ByteArray.mk.injEq]
    exact Array.toList_inj.1 h
theorem cmpS_self (a : ByteArray) : cmpS a a = 0 := compare_self _
theorem cmpS_zero {a b : ByteArray} (h : cmpS a b = 0) : a = b := bytes_ext (compare_zero h)
theorem cmpS_anti (a b : ByteArray) : cmpS b a = - cmpS a b := compare_anti _ _
theorem cmpS_tri (a b : ByteArray) : cmpS a b = -1 ∨ cmpS a b = 0 ∨ cmpS a b = 1 := compare_tri _ _
theorem cmpS_trans {a b c : ByteArray} (h : cmpS a b ≤ 0) (k : cmpS b c ≤ 0) : cmpS a c ≤ 0 := compare_trans h k


theorem cmpS_lt {a b : ByteArray} (h : Op.bytesLess a.toList b.toList = true) : cmpS a b = -1 := by
  rw [ByteArray.toList_eq, ByteArray.toList_eq, less_iff] at h
  have := cmpS_tri a b
  unfold cmpS at *
  simp at h; omega
theorem cmpS_eq {a b : ByteArray} (h : (!a.toList == b.toList) = false) : cmpS a b = 0 := by
  rw [ByteArray.toList_eq, ByteArray.toList_eq] at h
  have e : a.data.toList = b.data.toList := by simpa using h
  unfold cmpS; rw [e]; exact compare_self _
theorem cmpS_gt {a b : ByteArray} (h : Op.bytesLess a.toList b.toList = false) (k : (!a.toList == b.toList) = true) : cmpS a b = 1 := by
  rw [ByteArray.toList_eq, ByteArray.toList_eq] at h k
  rw [less_iff] at h
  have := cmpS_tri a b
  have hne : cmpS a b ≠ 0 := fun e => by
    have := compare_zero e
    rw [this] at k; simp at k
  unfold cmpS at *
  simp at h; omega

/-- cmp.Or at two ints: the first that is not 0 -/
def orI (a b : Int) : Int := if a = 0 then b else a
set_option maxHeartbeats 1000000 in
theorem or_two (a b : Int) (g : Nat) (w : World) (h0 : w.cell? ⟨g, 0, none⟩ = some (.int .i64 a)) (h1 : w.cell? ⟨g, 1, none⟩ = some (.int .i64 b)) : Calls Tryd.prog 39 #[.slice (some ⟨g, 0, none⟩) 2 2] w fun e w' => e = .returned (.int .i64 (orI a b)) ∧ w = w' := by
  unfold orI
  by_cases ha : a = 0
  · subst ha
    by_cases hb : b = 0
    · subst hb
      go_enter Tryd.func39, Tryd.ntmps39
      go_wp2
      go_rounds 3
      go_ret
      exact ⟨rfl, rfl⟩
    · have hb' : (b != 0) = true := by simp [hb]
      go_enter Tryd.func39, Tryd.ntmps39
      go_wp2
      go_rounds 3
      go_ret
      exact ⟨rfl, rfl⟩
  · have ha' : (a != 0) = true := by simp [ha]
    rw [if_neg ha]
    go_enter Tryd.func39, Tryd.ntmps39
    go_wp2
    go_rounds 3
    go_ret
    exact ⟨rfl, rfl⟩
end Go.Proofs.YtbgbfjfboaajbaaDoor
namespace Go.Proofs.YtbgbfjfboaajbaaDoor
open Go.RowKit
def ordE (a b : Ev) : Int := orI (cmpS a.shard b.shard) (cmpI a.number b.number)
set_option maxHeartbeats 2000000 in
theorem event_order (a b : Ev) (w : World) : Calls Tryd.prog 21 #[.agg (evC a), .agg (evC b)] w fun e w' => e = .returned (.int .i64 (ordE a b)) ∧ Below w.heap.size w w' := by
  have HO := Lib.hid (show orI (cmpS a.shard b.shard) (cmpI a.number b.number) = ordE a b from rfl)
  go_enter Tryd.func21, Tryd.ntmps21
  go_wp2_with fail
  refine wp_box2 fun W hsz hbW hA hB => ?_
  clear hsz
  go_region_held3 (S2 W w.heap.size (evC a) (w.heap.size + 1) (evC b)) (first | exact S2.start hA hB | exact S2.ext (by assumption) (by assumption) hA hB | exact S2.ext (ext_alloc _ _) (by assumption) hA hB | assumption) (first | (go_at_call 40; refine (strings_Compare _ _ _).mono ?_; rintro e w1 ⟨rfl, rfl⟩) | (go_at_call 41; refine (cmp_int _ _ _).mono ?_; rintro e w2 ⟨rfl, rfl⟩) | (go_at_call 39; refine (or_two (cmpS a.shard b.shard) (cmpI a.number b.number) _ _ (by simp) (by simp)).mono ?_; rintro e w3 ⟨rfl, rfl⟩))
  go_wp2
  go_ret
  exact ⟨ret_int HO.out, ext_trans hbW (S2.base (by assumption))⟩

end Go.Proofs.YtbgbfjfboaajbaaDoor
namespace Go.Proofs.YtbgbfjfboaajbaaDoor
open Go.RowKit
def evL (e : Ev) : List Value := (evC e).toList
theorem evL_len (e : Ev) : (evL e).length = 8 := rfl
def newAt (l : List Ev) : Nat → Bool
  | 0 => true
  | k + 1 => decide ((l[k + 1]?).map Ev.shard ≠ (l[k]?).map Ev.shard)
def shardsTo (l : List Ev) : Nat → List ByteArray
  | 0 => []
  | k + 1 => shardsTo l k ++ (if newAt l k then ((l[k]?).map Ev.shard).toList else [])
def shardsOf (l : List Ev) : List ByteArray := shardsTo l l.length
theorem shardsTo_le (l : List Ev) : ∀ k, (shardsTo l k).length ≤ k
  | 0 => Nat.le_refl _
  | k + 1 => by
    have := shardsTo_le l k
    simp only [shardsTo, List.length_append]
    split
    · cases l[k]? <;> simp <;> omega
    · simp; omega
/-- the eight cells of an event -/
theorem ev_cells {w : World} {a : Option Addr} {n c k : Nat} {l : List Ev} {e : Ev} (s : Sl w (.slice a n c) n (l.flatMap evL)) (h : l[k]? = some e) :
    ∃ b o, a = some ⟨b, o, none⟩ ∧ w.cell? ⟨b, o + k * 8, none⟩ = some (.string e.shard) ∧ w.cell? ⟨b, o + k * 8 + 1, none⟩ = some (.int .i64 e.number) ∧ w.cell? ⟨b, o + k * 8 + 2, none⟩ = some (.int .i64 e.kind) ∧ w.cell? ⟨b, o + k * 8 + 3, none⟩ = some (.int .i64 e.time) ∧
      w.cell? ⟨b, o + k * 8 + 4, none⟩ = some (.string e.key) ∧ w.cell? ⟨b, o + k * 8 + 5, none⟩ = some (.string e.name) ∧ w.cell? ⟨b, o + k * 8 + 6, none⟩ = some (.int .i64 e.arm) ∧ w.cell? ⟨b, o + k * 8 + 7, none⟩ = some (.int .i64 e.n) := by
  obtain ⟨b, o, ha, hc⟩ := s.elem evL_len (by omega) h
  exact ⟨b, o, ha, hc 0 _ rfl, hc 1 _ rfl, hc 2 _ rfl, hc 3 _ rfl, hc 4 _ rfl, hc 5 _ rfl, hc 6 _ rfl, hc 7 _ rfl⟩
theorem Sl.len_le {w : World} {a : Option Addr} {n c : Nat} {cs : List Value} (s : Sl w (.slice a n c) n cs) : n ≤ 9223372036854775807 := by
  obtain ⟨_, _, hv, h1, h2, _⟩ := s; cases hv; unfold maxLen at h2; omega

set_option maxHeartbeats 4000000 in
theorem event_shards (l : List Ev) (a : Option Addr) (c : Nat) (w : World) (hs : Sl w (.slice a l.length c) l.length (l.flatMap evL)) :
    Calls Tryd.prog 22 #[.slice a l.length c] w fun e w' => e = .returned (.int .i64 (shardsOf l).length) ∧ Below w.heap.size w w' := by
  have hl := hs.len_le
  go_enter Tryd.func22, Tryd.ntmps22
  go_wp2
  go_loopw [3, 8] (fun t i wr => ∃ k : Nat, k ≤ l.length ∧ i = .int .i64 k ∧ t = .int .i64 (shardsTo l k).length ∧ Below w.heap.size w wr) (fun _ i _ => l.length - (intOf i).toNat)
  case atStart => exact ⟨0, by omega, rfl, rfl, Below.refl _ _⟩
  case round =>
    obtain ⟨k, hk, rfl, rfl, hb⟩ := hrel
    have hle := shardsTo_le l k
    by_cases hlt : k < l.length
    · have hgk := List.getElem?_eq_getElem hlt
      generalize l[k] = s at hgk
      obtain ⟨b, o, rfl, e0, e1, e2, e3, e4, e5, e6, e7⟩ := ev_cells (hs.ext hb) hgk
      go_upto_region 5 with (fail)
      clear e0 e1 e2 e3 e4 e5 e6 e7
      refine wp_box1 fun X hszX hbX hS => ?_
      have hbx := ext_trans hb hbX
      have g0 := hS.2 0
      clear hszX hS
      by_cases h0 : k = 0
      · subst h0
        have HZ : Hid (shardsTo l 1 = [s.shard]) := by exact (by simp [shardsTo, newAt, hgk] : shardsTo l 1 = [s.shard])
        clear hgk
        go_quiet (fail)
        go_wp2
        exact ⟨⟨1, by omega, rfl, by rw [HZ.out]; rfl, below_drewN hbx _⟩, by simp [intOf]; omega⟩
      · obtain ⟨j, rfl⟩ : ∃ j, k = j + 1 := ⟨k - 1, by omega⟩
        have hgj := List.getElem?_eq_getElem (show j < l.length by omega)
        generalize l[j] = s' at hgj
        obtain ⟨b', o', hb', f0, _⟩ := ev_cells (hs.ext hbx) hgj
        cases hb'
        have HSH : Hid (shardsTo l (j + 1 + 1) = shardsTo l (j + 1) ++ if s.shard = s'.shard then [] else [s.shard]) := by
          have : shardsTo l (j + 1 + 1) = shardsTo l (j + 1) ++ if s.shard = s'.shard then [] else [s.shard] := by
            rw [shardsTo, newAt, hgk, hgj]
            by_cases hq : s.shard = s'.shard <;> simp [hq]
          exact this
        clear hgk hgj h0
        have hj0 : (0 : Int) ≤ (j : Int) := Int.natCast_nonneg _
        have hj1 : (j : Int) < (l.length : Int) := by omega
        have hne0 : ((j : Int) + 1 == 0) = false := by simp; omega
        have hwj : IntKind.i64.wrap (j : Int) = (j : Int) := IntWalk.i64_in _ (by omega)
        by_cases hq : s.shard = s'.shard
        · have hq1 : (s.shard.toList == s'.shard.toList) = true := by rw [hq]; simp
          have HQ := Lib.hid hq
          clear hq
          go_quiet (fail)
          clear hwj
          go_wp2
          exact ⟨⟨j + 1 + 1, by omega, by go_num, by rw [HSH.out, if_pos HQ.out]; simp, below_drewN hbx _⟩, by simp [intOf]; omega⟩
        · have hq1 : (s.shard.toList == s'.shard.toList) = false := by
            simp only [beq_eq_false_iff_ne, ne_eq, ByteArray.toList_eq]; exact fun h => hq (bytes_ext h)
          have HQ := Lib.hid hq
          clear hq
          go_quiet (fail)
          clear hwj
          go_wp2
          exact ⟨⟨j + 1 + 1, by omega, by go_num, by rw [HSH.out, if_neg HQ.out]; simp, below_drewN hbx _⟩, by simp [intOf]; omega⟩
    · have hkl : k = l.length := by omega
      have HK := Lib.hid hkl
      clear hkl
      go_wp2
      go_ret
      exact ⟨ret_int (by unfold shardsOf; rw [← HK.out]), hb⟩
end Go.Proofs.YtbgbfjfboaajbaaDoor
