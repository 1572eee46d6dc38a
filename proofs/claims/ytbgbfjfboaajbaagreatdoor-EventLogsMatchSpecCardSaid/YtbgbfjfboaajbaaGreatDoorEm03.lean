/- Comparisons of Go's library: cmp.Compare at ints and strings, strings.Compare, cmp.Or at two ints. The reference's Check of events; the order of events. The order of events. How many shards a log has: event.shards and the reference's shards. The order of events in the form that the sort asks: the world grown alone. '==' and '!=' on events. -/
import Derived.Test.YtbgbfjfboaajbaaGreatDoorProg
import Derived.Test.YtbgbfjfboaajbaaGreatDoorEm00
import Derived.Lib.Bytealg
import Derived.Test.YtbgbfjfboaajbaaGreatDoorEm01
import Derived.Deep.QuietTactic
import Derived.BigQuiet
import Derived.Shelf.SlSortCmp.KitK
import Derived.Laws.StructEq
namespace Go.Proofs.YtbgbfjfboaajbaaGreatDoor
open Go.RowKit

def cmpI (a b : Int) : Int := if a < b then -1 else if b < a then 1 else 0
def cmpS (a b : ByteArray) : Int := Lib.compareBytes a.data.toList b.data.toList

theorem isNaN_int (a : Int) (w : World) : Calls Tryz.prog 55 #[.int .i64 a] w fun e w' => e = .returned (.bool false) ∧ w = w' := by
  go_enter Tryz.func55, Tryz.ntmps55
  go_wp2
  go_ret
  simp

set_option maxHeartbeats 1000000 in
theorem cmp_int (a b : Int) (w : World) : Calls Tryz.prog 34 #[.int .i64 a, .int .i64 b] w fun e w' => e = .returned (.int .i64 (cmpI a b)) ∧ w = w' := by
  unfold cmpI
  by_cases h1 : a < b
  · rw [if_pos h1]
    go_enter Tryz.func34, Tryz.ntmps34
    go_wp2_with (go_at_call 55; refine (isNaN_int _ _).mono ?_; rintro e w' ⟨rfl, rfl⟩)
    go_ret
    exact ⟨rfl, rfl⟩
  · rw [if_neg h1]
    by_cases h2 : b < a
    · rw [if_pos h2]
      go_enter Tryz.func34, Tryz.ntmps34
      go_wp2_with (go_at_call 55; refine (isNaN_int _ _).mono ?_; rintro e w' ⟨rfl, rfl⟩)
      go_ret
      exact ⟨rfl, rfl⟩
    · rw [if_neg h2]
      go_enter Tryz.func34, Tryz.ntmps34
      go_wp2_with (go_at_call 55; refine (isNaN_int _ _).mono ?_; rintro e w' ⟨rfl, rfl⟩)
      go_ret
      exact ⟨rfl, rfl⟩

set_option maxRecDepth 100000 in
set_option maxHeartbeats 1000000 in
theorem compareString (a b : ByteArray) (w : World) : Calls Tryz.prog 54 #[.string a, .string b] w fun e w' => e = .returned (.int .i64 (cmpS a b)) ∧ w = w' := by
  go_enter Tryz.func54, Tryz.ntmps54
  go_wp2
  rw [run_callFunc_extern Tryz.func67 (by kernel_rfl) (by kernel_rfl) (by kernel_rfl) (e := Extern.BytealgCompare.compare) (by kernel_rfl), Lib.run_compareString]
  simp only [Result.andThen]
  rw [Oper.upon_value]
  go_wp2
  go_ret
  exact ⟨rfl, rfl⟩

set_option maxHeartbeats 1000000 in
theorem strings_Compare (a b : ByteArray) (w : World) : Calls Tryz.prog 33 #[.string a, .string b] w fun e w' => e = .returned (.int .i64 (cmpS a b)) ∧ w = w' := by
  go_enter Tryz.func33, Tryz.ntmps33
  go_wp2_with (go_at_call 54; refine (compareString _ _ _).mono ?_; rintro e w' ⟨rfl, rfl⟩)
  go_ret
  exact ⟨rfl, rfl⟩

/-- '<' on the bytes of two strings, as the model has it, by compareBytes -/
theorem less_iff : ∀ (a b : List UInt8), Op.bytesLess a b = decide (Lib.compareBytes a b < 0)
  | [], [] => by simp [Op.bytesLess, Lib.compareBytes]
  | [], _ :: _ => by simp [Op.bytesLess, Lib.compareBytes]
  | _ :: _, [] => by simp [Op.bytesLess, Lib.compareBytes]
  | x :: a, y :: b => by
    have ih := less_iff a b
    simp only [Op.bytesLess, Lib.compareBytes]
    by_cases h1 : x < y
    · simp [h1]
    · by_cases h2 : y < x
      · have : (x == y) = false := by
          rw [beq_eq_false_iff_ne]; intro e; subst e; exact h1 h2
        simp [h1, h2, this]
      · have : x = y := UInt8.le_antisymm (UInt8.not_lt.1 h2) (UInt8.not_lt.1 h1)
        subst this
        simp [h1, ih]
theorem compare_self : ∀ a : List UInt8, Lib.compareBytes a a = 0
  | [] => rfl
  | x :: a => by simp [Lib.compareBytes, UInt8.lt_irrefl, compare_self a]
theorem compare_zero : ∀ {a b : List UInt8}, Lib.compareBytes a b = 0 → a = b
  | [], [], _ => rfl
  | [], _ :: _, h => by simp [Lib.compareBytes] at h
  | _ :: _, [], h => by simp [Lib.compareBytes] at h
  | x :: a, y :: b, h => by
    simp only [Lib.compareBytes] at h
    by_cases h1 : x < y
    · simp [h1] at h
    · by_cases h2 : y < x
      · simp [h1, h2] at h
      · have : x = y := UInt8.le_antisymm (UInt8.not_lt.1 h2) (UInt8.not_lt.1 h1)
        subst this
        simp [h1] at h
        rw [compare_zero h]
theorem compare_anti : ∀ (a b : List UInt8), Lib.compareBytes b a = - Lib.compareBytes a b
  | [], [] => rfl
  | [], _ :: _ => rfl
  | _ :: _, [] => rfl
  | x :: a, y :: b => by
    have ih := compare_anti a b
    simp only [Lib.compareBytes]
    by_cases h1 : x < y
    · have h2 : ¬ y < x := fun h => UInt8.lt_irrefl _ (UInt8.lt_trans h1 h)
      simp [h1, h2]
    · by_cases h2 : y < x
      · simp [h1, h2]
      · simp [h1, h2, ih]
theorem compare_tri : ∀ (a b : List UInt8), Lib.compareBytes a b = -1 ∨ Lib.compareBytes a b = 0 ∨ Lib.compareBytes a b = 1
  | [], [] => .inr (.inl rfl)
  | [], _ :: _ => .inl rfl
  | _ :: _, [] => .inr (.inr rfl)
  | x :: a, y :: b => by
    have ih := compare_tri a b
    simp only [Lib.compareBytes]
    by_cases h1 : x < y
    · simp [h1]
    · by_cases h2 : y < x
      · simp [h1, h2]
      · simpa [h1, h2] using ih
theorem compare_trans : ∀ {a b c : List UInt8}, Lib.compareBytes a b ≤ 0 → Lib.compareBytes b c ≤ 0 → Lib.compareBytes a c ≤ 0
  | [], _, [], _, _ => by simp [Lib.compareBytes]
  | [], _, _ :: _, _, _ => by simp [Lib.compareBytes]
  | _ :: _, [], _, h, _ => by simp [Lib.compareBytes] at h
  | _ :: _, _ :: _, [], _, h => by simp [Lib.compareBytes] at h
  | x :: a, y :: b, z :: c, h, k => by
    simp only [Lib.compareBytes] at h k ⊢
    by_cases h1 : x < y
    · by_cases k1 : y < z
      · simp [UInt8.lt_trans h1 k1]
      · by_cases k2 : z < y
        · simp [k1, k2] at k
        · have : y = z := UInt8.le_antisymm (UInt8.not_lt.1 k2) (UInt8.not_lt.1 k1)
          subst this; simp [h1]
    · by_cases h2 : y < x
      · simp [h1, h2] at h
      · have : x = y := UInt8.le_antisymm (UInt8.not_lt.1 h2) (UInt8.not_lt.1 h1)
        subst this
        simp only [h1, if_false] at h
        by_cases k1 : x < z
        · simp [k1]
        · by_cases k2 : z < x
          · simp [k1, k2] at k
          · simp only [k1, k2, if_false] at k ⊢
            exact compare_trans h k

theorem cmpI_self (a : Int) : cmpI a a = 0 := by unfold cmpI; simp
theorem cmpI_zero {a b : Int} (h : cmpI a b = 0) : a = b := by
  unfold cmpI at h
  by_cases h1 : a < b
  · simp [h1] at h
  · by_cases h2 : b < a
    · simp [h1, h2] at h
    · omega
theorem cmpI_anti (a b : Int) : cmpI b a = - cmpI a b := by unfold cmpI; split <;> split <;> simp_all <;> omega
theorem cmpI_trans {a b c : Int} (h : cmpI a b ≤ 0) (k : cmpI b c ≤ 0) : cmpI a c ≤ 0 := by
  unfold cmpI at *
  by_cases h1 : a < b <;> by_cases h2 : b < a <;> by_cases k1 : b < c <;> by_cases k2 : c < b <;> by_cases l1 : a < c <;> by_cases l2 : c < a <;> simp_all <;> omega

theorem bytes_ext {a b : ByteArray} (h : a.data.toList = b.data.toList) : a = b := by
  cases a with | mk a => cases b with | mk b =>
    simp only [ByteArray.mk.injEq]
    exact Array.toList_inj.1 h
theorem cmpS_self (a : ByteArray) : cmpS a a = 0 := compare_self _
theorem cmpS_zero {a b : ByteArray} (h : cmpS a b = 0) : a = b := bytes_ext (compare_zero h)
theorem cmpS_anti (a b : ByteArray) : cmpS b a = - cmpS a b := compare_anti _ _
theorem cmpS_tri (a b : ByteArray) : cmpS a b = -1 ∨ cmpS a b = 0 ∨ cmpS a b = 1 := compare_tri _ _
theorem cmpS_trans {a b c : ByteArray} (h : cmpS a b ≤ 0) (k : cmpS b c ≤ 0) : cmpS a c ≤ 0 := compare_trans h k


theorem cmpS_lt {a b : ByteArray} (h : Op.bytesLess a.toList b.toList = true) : cmpS a b = -1 := by
  rw [ByteArray.toList_eq, ByteArray.toList_eq, less_iff] at h
  have := cmpS_tri a b
  unfold cmpS at *
  simp at h; omega
theorem cmpS_eq {a b : ByteArray} (h : (!a.toList == b.toList) = false) : cmpS a b = 0 := by
  rw [ByteArray.toList_eq, ByteArray.toList_eq] at h
  have e : a.data.toList = b.data.toList := by simpa using h
  unfold cmpS; rw [e]; exact compare_self _
theorem cmpS_gt {a b : ByteArray} (h : Op.bytesLess a.toList b.toList = false) (k : (!a.toList == b.toList) = true) : cmpS a b = 1 := by
  rw [ByteArray.toList_eq, ByteArray.toList_eq] at h k
  rw [less_iff] at h
  have := cmpS_tri a b
  have hne : cmpS a b ≠ 0 := fun e => by
    have := compare_zero e
    rw [this] at k; simp at k
  unfold cmpS at *
  simp at h; omega

/-- cmp.Or at two ints: the first that is not 0 -/
def orI (a b : Int) : Int := if a = 0 then b else a
set_option maxHeartbeats 1000000 in
theorem or_two (a b : Int) (g : Nat) (w : World) (h0 : w.cell? ⟨g, 0, none⟩ = some (.int .i64 a)) (h1 : w.cell? ⟨g, 1, none⟩ = some (.int .i64 b)) : Calls Tryz.prog 32 #[.slice (some ⟨g, 0, none⟩) 2 2] w fun e w' => e = .returned (.int .i64 (orI a b)) ∧ w = w' := by
  unfold orI
  by_cases ha : a = 0
  · subst ha
    by_cases hb : b = 0
    · subst hb
      go_enter Tryz.func32, Tryz.ntmps32
      go_wp2
      go_rounds 3
      go_ret
      exact ⟨rfl, rfl⟩
    · have hb' : (b != 0) = true := by simp [hb]
      go_enter Tryz.func32, Tryz.ntmps32
      go_wp2
      go_rounds 3
      go_ret
      exact ⟨rfl, rfl⟩
  · have ha' : (a != 0) = true := by simp [ha]
    rw [if_neg ha]
    go_enter Tryz.func32, Tryz.ntmps32
    go_wp2
    go_rounds 3
    go_ret
    exact ⟨rfl, rfl⟩
end Go.Proofs.YtbgbfjfboaajbaaGreatDoor
namespace Go.Proofs.YtbgbfjfboaajbaaGreatDoor
open Go.RowKit
set_option maxHeartbeats 8000000 in
set_option maxRecDepth 100000 in
theorem ref7_Check (e : Ev) (he : e.ok) (w : World) : Calls Tryz.prog 19 #[.agg (evC e)] w fun r w' => r = .returned (.int .i64 (checkE e)) ∧ Below w.heap.size w w' := by
  obtain ⟨h1, h2, h3⟩ := he
  go_enter Tryz.func19, Tryz.ntmps19
  go_wp2_with (first | (go_at_call 35; refine (ref_IsName _ (by assumption) _).mono ?_; rintro e w' ⟨rfl, rfl⟩) | (go_at_call 37; refine (ref_IsKey _ (by assumption) _).mono ?_; rintro e w' ⟨rfl, rfl⟩) | (go_at_call 36; refine (ref_IsTime _ _).mono ?_; rintro e w' ⟨rfl, rfl⟩))
  all_goals go_ret
  all_goals refine ⟨ret_int ?_, by go_grown⟩
  all_goals first | (simp_all [checkE]; done) | (simp_all [checkE, withinB]; done) | (simp_all [checkE, withinB]; omega) | (unfold checkE withinB at *; (repeat' split) <;> simp_all <;> omega)
end Go.Proofs.YtbgbfjfboaajbaaGreatDoor
namespace Go.Proofs.YtbgbfjfboaajbaaGreatDoor
open Go.RowKit
def ordE (a b : Ev) : Int := orI (cmpS a.shard b.shard) (cmpI a.number b.number)
set_option maxHeartbeats 2000000 in
theorem event_order (a b : Ev) (w : World) : Calls Tryz.prog 17 #[.agg (evC a), .agg (evC b)] w fun e w' => e = .returned (.int .i64 (ordE a b)) ∧ Below w.heap.size w w' := by
  have HO := Lib.hid (show orI (cmpS a.shard b.shard) (cmpI a.number b.number) = ordE a b from rfl)
  go_enter Tryz.func17, Tryz.ntmps17
  go_wp2_with fail
  refine wp_box2 fun W hsz hbW hA hB => ?_
  clear hsz
  go_region_held3 (S2 W w.heap.size (evC a) (w.heap.size + 1) (evC b)) (first | exact S2.start hA hB | exact S2.ext (by assumption) (by assumption) hA hB | exact S2.ext (ext_alloc _ _) (by assumption) hA hB | assumption) (first | (go_at_call 33; refine (strings_Compare _ _ _).mono ?_; rintro e w1 ⟨rfl, rfl⟩) | (go_at_call 34; refine (cmp_int _ _ _).mono ?_; rintro e w2 ⟨rfl, rfl⟩) | (go_at_call 32; refine (or_two (cmpS a.shard b.shard) (cmpI a.number b.number) _ _ (by simp) (by simp)).mono ?_; rintro e w3 ⟨rfl, rfl⟩))
  go_wp2
  go_ret
  exact ⟨ret_int HO.out, ext_trans hbW (S2.base (by assumption))⟩

theorem ord_neg (a b : Ev) : (ordE a b < 0) ↔ (cmpS a.shard b.shard = -1 ∨ cmpS a.shard b.shard = 0 ∧ a.number < b.number) := by
  have h1 := cmpS_tri a.shard b.shard
  have h2 : cmpI a.number b.number < 0 ↔ a.number < b.number := by
    unfold cmpI
    by_cases k1 : a.number < b.number
    · simp [k1]
    · by_cases k2 : b.number < a.number <;> simp [k1, k2]
  unfold ordE orI
  split <;> omega

theorem less_of (a b : ByteArray) : Op.bytesLess a.toList b.toList = decide (cmpS a b = -1) := by
  rw [ByteArray.toList_eq, ByteArray.toList_eq, less_iff, decide_eq_decide]
  have := cmpS_tri a b
  unfold cmpS at *
  omega
theorem beq_of (a b : ByteArray) : (a.toList == b.toList) = decide (cmpS a b = 0) := by
  rw [ByteArray.toList_eq, ByteArray.toList_eq, Bool.eq_iff_iff]
  simp only [beq_iff_eq, decide_eq_true_eq]
  exact ⟨fun h => by unfold cmpS; rw [h]; exact compare_self _, fun h => compare_zero h⟩
set_option maxHeartbeats 2000000 in
theorem ref7_ahead (a b : Ev) (w : World) : Calls Tryz.prog 20 #[.agg (evC a), .agg (evC b)] w fun e w' => e = .returned (.bool (decide (ordE a b < 0))) ∧ Below w.heap.size w w' := by
  have hO := ord_neg a b
  have h3 := cmpS_tri a.shard b.shard
  have h1 := less_of a.shard b.shard
  have h2 := beq_of a.shard b.shard
  rcases h3 with h3 | h3 | h3
  · rw [h3] at h1 h2 hO
    rw [show decide (ordE a b < 0) = true by simp [hO]]
    simp only [decide_true] at h1
    clear hO h3 h2
    go_enter Tryz.func20, Tryz.ntmps20
    go_wp2
    go_ret
    exact ⟨rfl, by go_grown⟩
  · rw [h3] at h1 h2 hO
    rw [show decide (ordE a b < 0) = decide (a.number < b.number) by rw [decide_eq_decide, hO]; simp]
    have h1' : Op.bytesLess a.shard.toList b.shard.toList = false := by rw [h1]; rfl
    have h2' : (a.shard.toList == b.shard.toList) = true := by rw [h2]; rfl
    clear hO h3 h1 h2
    go_enter Tryz.func20, Tryz.ntmps20
    go_wp2
    go_ret
    exact ⟨rfl, by go_grown⟩
  · rw [h3] at h1 h2 hO
    rw [show decide (ordE a b < 0) = false by simp; have := hO; omega]
    have h1' : Op.bytesLess a.shard.toList b.shard.toList = false := by rw [h1]; rfl
    have h2' : (a.shard.toList == b.shard.toList) = false := by rw [h2]; rfl
    clear hO h3 h1 h2
    go_enter Tryz.func20, Tryz.ntmps20
    go_wp2
    go_ret
    exact ⟨rfl, by go_grown⟩
end Go.Proofs.YtbgbfjfboaajbaaGreatDoor
namespace Go.Proofs.YtbgbfjfboaajbaaGreatDoor
open Go.RowKit
def evL (e : Ev) : List Value := (evC e).toList
theorem evL_len (e : Ev) : (evL e).length = 8 := rfl
def newAt (l : List Ev) : Nat → Bool
  | 0 => true
  | k + 1 => decide ((l[k + 1]?).map Ev.shard ≠ (l[k]?).map Ev.shard)
def shardsTo (l : List Ev) : Nat → List ByteArray
  | 0 => []
  | k + 1 => shardsTo l k ++ (if newAt l k then ((l[k]?).map Ev.shard).toList else [])
def shardsOf (l : List Ev) : List ByteArray := shardsTo l l.length
theorem shardsTo_le (l : List Ev) : ∀ k, (shardsTo l k).length ≤ k
  | 0 => Nat.le_refl _
  | k + 1 => by
    have := shardsTo_le l k
    simp only [shardsTo, List.length_append]
    split
    · cases l[k]? <;> simp <;> omega
    · simp; omega
/-- the eight cells of an event -/
theorem ev_cells {w : World} {a : Option Addr} {n c k : Nat} {l : List Ev} {e : Ev} (s : Sl w (.slice a n c) n (l.flatMap evL)) (h : l[k]? = some e) :
    ∃ b o, a = some ⟨b, o, none⟩ ∧ w.cell? ⟨b, o + k * 8, none⟩ = some (.string e.shard) ∧ w.cell? ⟨b, o + k * 8 + 1, none⟩ = some (.int .i64 e.number) ∧ w.cell? ⟨b, o + k * 8 + 2, none⟩ = some (.int .i64 e.kind) ∧ w.cell? ⟨b, o + k * 8 + 3, none⟩ = some (.int .i64 e.time) ∧
      w.cell? ⟨b, o + k * 8 + 4, none⟩ = some (.string e.key) ∧ w.cell? ⟨b, o + k * 8 + 5, none⟩ = some (.string e.name) ∧ w.cell? ⟨b, o + k * 8 + 6, none⟩ = some (.int .i64 e.arm) ∧ w.cell? ⟨b, o + k * 8 + 7, none⟩ = some (.int .i64 e.n) := by
  obtain ⟨b, o, ha, hc⟩ := s.elem evL_len (by omega) h
  exact ⟨b, o, ha, hc 0 _ rfl, hc 1 _ rfl, hc 2 _ rfl, hc 3 _ rfl, hc 4 _ rfl, hc 5 _ rfl, hc 6 _ rfl, hc 7 _ rfl⟩
theorem Sl.len_le {w : World} {a : Option Addr} {n c : Nat} {cs : List Value} (s : Sl w (.slice a n c) n cs) : n ≤ 9223372036854775807 := by
  obtain ⟨_, _, hv, h1, h2, _⟩ := s; cases hv; unfold maxLen at h2; omega

set_option maxHeartbeats 4000000 in
theorem event_shards (l : List Ev) (a : Option Addr) (c : Nat) (w : World) (hs : Sl w (.slice a l.length c) l.length (l.flatMap evL)) :
    Calls Tryz.prog 18 #[.slice a l.length c] w fun e w' => e = .returned (.int .i64 (shardsOf l).length) ∧ Below w.heap.size w w' := by
  have hl := hs.len_le
  go_enter Tryz.func18, Tryz.ntmps18
  go_wp2
  go_loopw [3, 8] (fun t i wr => ∃ k : Nat, k ≤ l.length ∧ i = .int .i64 k ∧ t = .int .i64 (shardsTo l k).length ∧ Below w.heap.size w wr) (fun _ i _ => l.length - (intOf i).toNat)
  case atStart => exact ⟨0, by omega, rfl, rfl, Below.refl _ _⟩
  case round =>
    obtain ⟨k, hk, rfl, rfl, hb⟩ := hrel
    have hle := shardsTo_le l k
    by_cases hlt : k < l.length
    · have hgk := List.getElem?_eq_getElem hlt
      generalize l[k] = s at hgk
      obtain ⟨b, o, rfl, e0, e1, e2, e3, e4, e5, e6, e7⟩ := ev_cells (hs.ext hb) hgk
      go_upto_region 5 with (fail)
      clear e0 e1 e2 e3 e4 e5 e6 e7
      refine wp_box1 fun X hszX hbX hS => ?_
      have hbx := ext_trans hb hbX
      have g0 := hS.2 0
      clear hszX hS
      by_cases h0 : k = 0
      · subst h0
        have HZ : Hid (shardsTo l 1 = [s.shard]) := by exact (by simp [shardsTo, newAt, hgk] : shardsTo l 1 = [s.shard])
        clear hgk
        go_quiet (fail)
        go_wp2
        exact ⟨⟨1, by omega, rfl, by rw [HZ.out]; rfl, below_drewN hbx _⟩, by simp [intOf]; omega⟩
      · obtain ⟨j, rfl⟩ : ∃ j, k = j + 1 := ⟨k - 1, by omega⟩
        have hgj := List.getElem?_eq_getElem (show j < l.length by omega)
        generalize l[j] = s' at hgj
        obtain ⟨b', o', hb', f0, _⟩ := ev_cells (hs.ext hbx) hgj
        cases hb'
        have HSH : Hid (shardsTo l (j + 1 + 1) = shardsTo l (j + 1) ++ if s.shard = s'.shard then [] else [s.shard]) := by
          have : shardsTo l (j + 1 + 1) = shardsTo l (j + 1) ++ if s.shard = s'.shard then [] else [s.shard] := by
            rw [shardsTo, newAt, hgk, hgj]
            by_cases hq : s.shard = s'.shard <;> simp [hq]
          exact this
        clear hgk hgj h0
        have hj0 : (0 : Int) ≤ (j : Int) := Int.natCast_nonneg _
        have hj1 : (j : Int) < (l.length : Int) := by omega
        have hne0 : ((j : Int) + 1 == 0) = false := by simp; omega
        have hwj : IntKind.i64.wrap (j : Int) = (j : Int) := IntWalk.i64_in _ (by omega)
        by_cases hq : s.shard = s'.shard
        · have hq1 : (s.shard.toList == s'.shard.toList) = true := by rw [hq]; simp
          have HQ := Lib.hid hq
          clear hq
          go_quiet (fail)
          clear hwj
          go_wp2
          exact ⟨⟨j + 1 + 1, by omega, by go_num, by rw [HSH.out, if_pos HQ.out]; simp, below_drewN hbx _⟩, by simp [intOf]; omega⟩
        · have hq1 : (s.shard.toList == s'.shard.toList) = false := by
            simp only [beq_eq_false_iff_ne, ne_eq, ByteArray.toList_eq]; exact fun h => hq (bytes_ext h)
          have HQ := Lib.hid hq
          clear hq
          go_quiet (fail)
          clear hwj
          go_wp2
          exact ⟨⟨j + 1 + 1, by omega, by go_num, by rw [HSH.out, if_neg HQ.out]; simp, below_drewN hbx _⟩, by simp [intOf]; omega⟩
    · have hkl : k = l.length := by omega
      have HK := Lib.hid hkl
      clear hkl
      go_wp2
      go_ret
      exact ⟨ret_int (by unfold shardsOf; rw [← HK.out]), hb⟩
end Go.Proofs.YtbgbfjfboaajbaaGreatDoor
namespace Go.Proofs.YtbgbfjfboaajbaaGreatDoor
open Go.RowKit Go.Sort
/-- The world has grown alone: new blocks, and draws. -/
def Grew (w w' : World) : Prop := Below w.heap.size w w' ∧ w.drawn ≤ w'.drawn
theorem Grew.form {w w' : World} (h : Grew w w') : ∃ q os, w' = grow (w.drewN q) os := by
  obtain ⟨⟨h1, h2, h3, h4, h5⟩, h6⟩ := h
  refine ⟨w'.drawn - w.drawn, w'.heap.extract w.heap.size w'.heap.size, ?_⟩
  cases w with | mk H T D O U =>
  cases w' with | mk H' T' D' O' U' =>
  simp only at h1 h2 h3 h4 h5 h6
  subst h1; subst h2; subst h3
  simp only [grow, World.drewN, World.mk.injEq, true_and]
  refine ⟨?_, by omega, trivial⟩
  apply Array.ext
  · simp; omega
  · intro i hi1 hi2
    by_cases hlt : i < H.size
    · have := h5 i hlt
      rw [Array.getElem?_eq_getElem hi1, Array.getElem?_eq_getElem hlt] at this
      rw [Array.getElem_append_left hlt]
      exact Option.some.inj this
    · rw [Array.getElem_append_right (by omega)]
      simp only [Array.getElem_extract]
      congr 1; omega
abbrev S2D (W : World) (b1 : Nat) (A1 : Array Value) (b2 : Nat) (A2 : Array Value) (w' : World) : Prop :=
  S2 W b1 A1 b2 A2 w' ∧ W.drawn ≤ w'.drawn
theorem S2D.start {W : World} {b1 : Nat} {A1 : Array Value} {b2 : Nat} {A2 : Array Value} (h1 : Box W b1 A1) (h2 : Box W b2 A2) : S2D W b1 A1 b2 A2 W.drew :=
  ⟨S2.start h1 h2, Nat.le_succ _⟩
theorem S2D.alloc {W w1 : World} {b1 : Nat} {A1 : Array Value} {b2 : Nat} {A2 : Array Value} {o : Obj} (h : S2D W b1 A1 b2 A2 w1) (h1 : Box W b1 A1) (h2 : Box W b2 A2) : S2D W b1 A1 b2 A2 (w1.alloc o) :=
  ⟨S2.ext (ext_alloc _ _) h.1 h1 h2, h.2⟩
theorem S2D.grew {w W w1 : World} {b1 : Nat} {A1 : Array Value} {b2 : Nat} {A2 : Array Value} (hw : Grew w W) (h : S2D W b1 A1 b2 A2 w1) : Grew w w1 :=
  ⟨ext_trans hw.1 h.1.1, Nat.le_trans hw.2 h.2⟩
theorem wp_box2d {P : Program} {c : Code} {Q : Exit → Act → World → Prop} {a : Act} {w : World} {A B : Array Value} {t u : TypeId}
    (h : ∀ W, Grew w W → Box W w.heap.size A → Box W (w.heap.size + 1) B → c.wp P Q a W) : c.wp P Q a ((w.alloc (.cells A t)).alloc (.cells B u)) := by
  refine h _ ⟨by go_grown, Nat.le_refl _⟩ ((Box.new _ _ _).ext (by go_grown)) ?_
  have := Box.new (w.alloc (.cells A t)) B u
  simpa using this
set_option maxHeartbeats 2000000 in
theorem event_order_g (a b : Ev) (w : World) : Calls Tryz.prog 17 #[.agg (evC a), .agg (evC b)] w fun e w' => e = .returned (.int .i64 (ordE a b)) ∧ Grew w w' := by
  have HO := Lib.hid (show orI (cmpS a.shard b.shard) (cmpI a.number b.number) = ordE a b from rfl)
  go_enter Tryz.func17, Tryz.ntmps17
  go_wp2_with fail
  refine wp_box2d fun W hbW hA hB => ?_
  go_region_held3 (S2D W w.heap.size (evC a) (w.heap.size + 1) (evC b)) (first | exact S2D.start hA hB | exact S2D.alloc (by assumption) hA hB | assumption) (first | (go_at_call 33; refine (strings_Compare _ _ _).mono ?_; rintro e w1 ⟨rfl, rfl⟩) | (go_at_call 34; refine (cmp_int _ _ _).mono ?_; rintro e w2 ⟨rfl, rfl⟩) | (go_at_call 32; refine (or_two (cmpS a.shard b.shard) (cmpI a.number b.number) _ _ (by simp) (by simp)).mono ?_; rintro e w3 ⟨rfl, rfl⟩))
  go_wp2
  go_ret
  exact ⟨ret_int HO.out, S2D.grew hbW (by assumption)⟩
theorem evL_one (x : Ev) : ∀ v ∈ evL x, v.oneCell' = true := by
  intro v hv
  simp only [evL, List.mem_cons, List.not_mem_nil, or_false] at hv
  rcases hv with rfl | rfl | rfl | rfl | rfl | rfl | rfl | rfl <;> rfl
instance : Inhabited Ev := ⟨⟨⟨#[]⟩, 0, 0, 0, ⟨#[]⟩, ⟨#[]⟩, 0, 0⟩⟩
theorem order_lays (blk off size : Nat) (w : World) : CmpLays Tryz.prog 17 #[] evL 8 ordE blk off size w := by
  intro m os dk _ x y
  refine (event_order_g x y _).mono ?_
  rintro e w' ⟨rfl, hg⟩
  exact ⟨rfl, hg.form⟩
theorem ordE_self (a : Ev) : ordE a a = 0 := by unfold ordE orI; rw [cmpS_self, cmpI_self]; rfl
theorem ordE_anti (a b : Ev) : ordE b a = - ordE a b := by
  unfold ordE orI; rw [cmpS_anti a.shard b.shard, cmpI_anti a.number b.number]
  by_cases h : cmpS a.shard b.shard = 0
  · simp [h]
  · rw [if_neg (by omega), if_neg h]
theorem ordE_zero {a b : Ev} : ordE a b = 0 ↔ a.shard = b.shard ∧ a.number = b.number := by
  unfold ordE orI
  constructor
  · intro h
    by_cases h1 : cmpS a.shard b.shard = 0
    · rw [if_pos h1] at h; exact ⟨cmpS_zero h1, cmpI_zero h⟩
    · rw [if_neg h1] at h; exact absurd h h1
  · rintro ⟨h1, h2⟩
    rw [h1, h2, cmpS_self, cmpI_self]; rfl
theorem ordE_trans {a b c : Ev} (h : ordE a b ≤ 0) (k : ordE b c ≤ 0) : ordE a c ≤ 0 := by
  unfold ordE orI at *
  by_cases h1 : cmpS a.shard b.shard = 0
  · have e := cmpS_zero h1
    simp only [h1, if_true] at h
    rw [e]
    by_cases h2 : cmpS b.shard c.shard = 0
    · simp only [h2, if_true] at k ⊢; exact cmpI_trans h k
    · simp only [h2, if_false] at k ⊢; exact k
  · simp only [h1, if_false] at h
    by_cases h2 : cmpS b.shard c.shard = 0
    · have e := cmpS_zero h2
      rw [← e]; simp only [h1, if_false]; exact h
    · simp only [h2, if_false] at k
      have h3 := cmpS_trans h k
      by_cases h4 : cmpS a.shard c.shard = 0
      · have e := cmpS_zero h4
        rw [← e, cmpS_anti a.shard b.shard] at k; omega
      · rw [if_neg h4]; exact h3
theorem ordE_lt_trans {a b c : Ev} (h : ordE a b < 0) (k : ordE b c < 0) : ordE a c < 0 := by
  have h1 : ordE a c ≤ 0 := @ordE_trans a b c (by omega) (by omega)
  rcases Int.lt_or_eq_of_le h1 with h2 | h2
  · exact h2
  · have h3 : ordE c a = 0 := by rw [ordE_anti, h2]; rfl
    have h4 : ordE c b ≤ 0 := @ordE_trans c a b (by omega) (by omega)
    rw [ordE_anti] at h4; omega
theorem ordE_swo : SWO (ltOf ordE) where
  irrefl x := by simp [ltOf, ordE_self]
  trans x y z h k := by simp only [ltOf, decide_eq_true_eq] at *; exact ordE_lt_trans h k
  ntrans x y z h k := by
    simp only [ltOf, decide_eq_false_iff_not, Int.not_lt] at *
    have h1 := ordE_anti x y; have h2 := ordE_anti y z; have h3 := ordE_anti x z
    have := @ordE_trans z y x (by omega) (by omega)
    omega
end Go.Proofs.YtbgbfjfboaajbaaGreatDoor
namespace Go.Proofs.YtbgbfjfboaajbaaGreatDoor
open Go.RowKit
theorem ev_ext {a b : Ev} (h0 : a.shard = b.shard) (h1 : a.number = b.number) (h2 : a.kind = b.kind) (h3 : a.time = b.time) (h4 : a.key = b.key) (h5 : a.name = b.name) (h6 : a.arm = b.arm) (h7 : a.n = b.n) : a = b := by
  cases a; cases b; simp_all
instance : DecidableEq Ev := fun a b => decidable_of_iff (a.shard = b.shard ∧ a.number = b.number ∧ a.kind = b.kind ∧ a.time = b.time ∧ a.key = b.key ∧ a.name = b.name ∧ a.arm = b.arm ∧ a.n = b.n)
  ⟨fun ⟨h0, h1, h2, h3, h4, h5, h6, h7⟩ => ev_ext h0 h1 h2 h3 h4 h5 h6 h7, fun h => by subst h; simp⟩
theorem toList_inj {a b : ByteArray} (h : a.toList = b.toList) : a = b := bytes_ext (by rw [← ByteArray.toList_eq, ← ByteArray.toList_eq]; exact h)
set_option maxHeartbeats 2000000 in
set_option maxRecDepth 100000 in
theorem equal_ev (x y : Ev) (w : World) : (Op.equalIn 10000 31 (.agg (evC x)) (.agg (evC y))).run Tryz.prog w = .ok (decide (x = y)) w := by
  have e1 : (Op.equalIn 10000 31 (.agg (evC x)) (.agg (evC y))).run Tryz.prog w = .ok (decide (x = y)) w := by
    rw [run_equalIn_struct w 9999 31 _ _ (by kernel_rfl) (by kernel_rfl)]
    go_simp
    by_cases hxy : x = y
    · subst hxy; simp
    · rw [decide_eq_false hxy]
      split
      · split
        · split
          · split
            · split
              · split
                · split
                  · split
                    · exact absurd (ev_ext (toList_inj ‹_›) ‹_› ‹_› ‹_› (toList_inj ‹x.key.toList = _›) (toList_inj ‹x.name.toList = _›) ‹_› ‹_›) hxy
                    · rfl
                  · rfl
                · rfl
              · rfl
            · rfl
          · rfl
        · rfl
      · rfl
  exact e1
theorem eql_ev (x y : Ev) (w : World) : (binOp .eql 31 (.agg (evC x)) (.agg (evC y))).run Tryz.prog w = .ok (.bool (decide (x = y))) w := by
  simp only [binOp]
  simp [Op.equal, Op.maxDepth, equal_ev x y w]
theorem neq_ev (x y : Ev) (w : World) : (binOp .neq 31 (.agg (evC x)) (.agg (evC y))).run Tryz.prog w = .ok (.bool (!decide (x = y))) w := by
  simp only [binOp]
  simp [Op.equal, Op.maxDepth, equal_ev x y w]
theorem guard_ev (op : BinOp) (a b : Operand) (x y : Ev) (w : World) : (eqGuard op 31 a b (.agg (evC x)) (.agg (evC y))).run Tryz.prog w = .ok () w :=
  run_eqGuard_agg w op _ a b _ _ (by kernel_rfl)
end Go.Proofs.YtbgbfjfboaajbaaGreatDoor
