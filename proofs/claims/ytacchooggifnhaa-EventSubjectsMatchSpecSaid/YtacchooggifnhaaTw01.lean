/- Comparisons of Go's library: cmp.Compare at ints and strings, strings.Compare, cmp.Or at two ints. The reference's Check of events; the order of events. The order of events. How many shards a log has: event.shards and the reference's shards. The reference's shards. -/
import Derived.Test.YtacchooggifnhaaProg
import Derived.Test.YtacchooggifnhaaTw00
import Derived.Lib.Bytealg
import Derived.Deep.QuietTactic
import Derived.BigQuiet
namespace Go.Proofs.Ytacchooggifnhaa
open Go.RowKit

def cmpI (a b : Int) : Int := if a < b then -1 else if b < a then 1 else 0
def cmpS (a b : ByteArray) : Int := Lib.compareBytes a.data.toList b.data.toList

theorem isNaN_int (a : Int) (w : World) : Calls Try.prog 49 #[.int .i64 a] w fun e w' => e = .returned (.bool false) ∧ w = w' := by
  go_enter Try.func49, Try.ntmps49
  go_wp2
  go_ret
  simp

set_option maxHeartbeats 1000000 in
theorem cmp_int (a b : Int) (w : World) : Calls Try.prog 27 #[.int .i64 a, .int .i64 b] w fun e w' => e = .returned (.int .i64 (cmpI a b)) ∧ w = w' := by
  unfold cmpI
  by_cases h1 : a < b
  · rw [if_pos h1]
    go_enter Try.func27, Try.ntmps27
    go_wp2_with (go_at_call 49; refine (isNaN_int _ _).mono ?_; rintro e w' ⟨rfl, rfl⟩)
    go_ret
    exact ⟨rfl, rfl⟩
  · rw [if_neg h1]
    by_cases h2 : b < a
    · rw [if_pos h2]
      go_enter Try.func27, Try.ntmps27
      go_wp2_with (go_at_call 49; refine (isNaN_int _ _).mono ?_; rintro e w' ⟨rfl, rfl⟩)
      go_ret
      exact ⟨rfl, rfl⟩
    · rw [if_neg h2]
      go_enter Try.func27, Try.ntmps27
      go_wp2_with (go_at_call 49; refine (isNaN_int _ _).mono ?_; rintro e w' ⟨rfl, rfl⟩)
      go_ret
      exact ⟨rfl, rfl⟩

set_option maxRecDepth 100000 in
set_option maxHeartbeats 1000000 in
theorem compareString (a b : ByteArray) (w : World) : Calls Try.prog 66 #[.string a, .string b] w fun e w' => e = .returned (.int .i64 (cmpS a b)) ∧ w = w' := by
  go_enter Try.func66, Try.ntmps66
  go_wp2
  rw [run_callFunc_extern Try.func91 (by kernel_rfl) (by kernel_rfl) (by kernel_rfl) (e := Extern.BytealgCompare.compare) (by kernel_rfl), Lib.run_compareString]
  simp only [Result.andThen]
  rw [Oper.upon_value]
  go_wp2
  go_ret
  exact ⟨rfl, rfl⟩

set_option maxHeartbeats 1000000 in
theorem strings_Compare (a b : ByteArray) (w : World) : Calls Try.prog 46 #[.string a, .string b] w fun e w' => e = .returned (.int .i64 (cmpS a b)) ∧ w = w' := by
  go_enter Try.func46, Try.ntmps46
  go_wp2_with (go_at_call 66; refine (compareString _ _ _).mono ?_; rintro e w' ⟨rfl, rfl⟩)
  go_ret
  exact ⟨rfl, rfl⟩

/-- '<' on the bytes of two strings, as the model has it, by compareBytes -/
theorem less_iff : ∀ (a b : List UInt8), Op.bytesLess a b = decide (Lib.compareBytes a b < 0)
  | [], [] => by simp [Op.bytesLess, Lib.compareBytes]
  | [], _ :: _ => by simp [Op.bytesLess, Lib.compareBytes]
  | _ :: _, [] => by simp [Op.bytesLess, Lib.compareBytes]
  | x :: a, y :: b => by
    have ih := less_iff a b
    simp only [Op.bytesLess, Lib.compareBytes]
    by_cases h1 : x < y
    · simp [h1]
    · by_cases h2 : y < x
      · have : (x == y) = false := by
          rw [beq_eq_false_iff_ne]; intro e; subst e; exact h1 h2
        simp [h1, h2, this]
      · have : x = y := UInt8.le_antisymm (UInt8.not_lt.1 h2) (UInt8.not_lt.1 h1)
        subst this
        simp [h1, ih]
theorem compare_self : ∀ a : List UInt8, Lib.compareBytes a a = 0
  | [] => rfl
  | x :: a => by simp [Lib.compareBytes, UInt8.lt_irrefl, compare_self a]
theorem compare_zero : ∀ {a b : List UInt8}, Lib.compareBytes a b = 0 → a = b
  | [], [], _ => rfl
  | [], _ :: _, h => by simp [Lib.compareBytes] at h
  | _ :: _, [], h => by simp [Lib.compareBytes] at h
  | x :: a, y :: b, h => by
    simp only [Lib.compareBytes] at h
    by_cases h1 : x < y
    · simp [h1] at h
    · by_cases h2 : y < x
      · simp [h1, h2] at h
      · have : x = y := UInt8.le_antisymm (UInt8.not_lt.1 h2) (UInt8.not_lt.1 h1)
        subst this
        simp [h1] at h
        rw [compare_zero h]
theorem compare_anti : ∀ (a b : List UInt8), Lib.compareBytes b a = - Lib.compareBytes a b
  | [], [] => rfl
  | [], _ :: _ => rfl
  | _ :: _, [] => rfl
  | x :: a, y :: b => by
    have ih := compare_anti a b
    simp only [Lib.compareBytes]
    by_cases h1 : x < y
    · have h2 : ¬ y < x := fun h => UInt8.lt_irrefl _ (UInt8.lt_trans h1 h)
      simp [h1, h2]
    · by_cases h2 : y < x
      · simp [h1, h2]
      · simp [h1, h2, ih]
theorem compare_tri : ∀ (a b : List UInt8), Lib.compareBytes a b = -1 ∨ Lib.compareBytes a b = 0 ∨ Lib.compareBytes a b = 1
  | [], [] => .inr (.inl rfl)
  | [], _ :: _ => .inl rfl
  | _ :: _, [] => .inr (.inr rfl)
  | x :: a, y :: b => by
    have ih := compare_tri a b
    simp only [Lib.compareBytes]
    by_cases h1 : x < y
    · simp [h1]
    · by_cases h2 : y < x
      · simp [h1, h2]
      · simpa [h1, h2] using ih
theorem compare_trans : ∀ {a b c : List UInt8}, Lib.compareBytes a b ≤ 0 → Lib.compareBytes b c ≤ 0 → Lib.compareBytes a c ≤ 0
  | [], _, [], _, _ => by simp [Lib.compareBytes]
  | [], _, _ :: _, _, _ => by simp [Lib.compareBytes]
  | _ :: _, [], _, h, _ => by simp [Lib.compareBytes] at h
  | _ :: _, _ :: _, [], _, h => by simp [Lib.compareBytes] at h
  | x :: a, y :: b, z :: c, h, k => by
    simp only [Lib.compareBytes] at h k ⊢
    by_cases h1 : x < y
    · by_cases k1 : y < z
      · simp [UInt8.lt_trans h1 k1]
      · by_cases k2 : z < y
        · simp [k1, k2] at k
        · have : y = z := UInt8.le_antisymm (UInt8.not_lt.1 k2) (UInt8.not_lt.1 k1)
          subst this; simp [h1]
    · by_cases h2 : y < x
      · simp [h1, h2] at h
      · have : x = y := UInt8.le_antisymm (UInt8.not_lt.1 h2) (UInt8.not_lt.1 h1)
        subst this
        simp only [h1, if_false] at h
        by_cases k1 : x < z
        · simp [k1]
        · by_cases k2 : z < x
          · simp [k1, k2] at k
          · simp only [k1, k2, if_false] at k ⊢
            exact compare_trans h k

theorem cmpI_anti (a b : Int) : cmpI b a = - cmpI a b := by unfold cmpI; split <;> split <;> simp_all <;> omega
theorem cmpI_trans {a b c : Int} (h : cmpI a b ≤ 0) (k : cmpI b c ≤ 0) : cmpI a c ≤ 0 := by
  unfold cmpI at *
  by_cases h1 : a < b <;> by_cases h2 : b < a <;> by_cases k1 : b < c <;> by_cases k2 : c < b <;> by_cases l1 : a < c <;> by_cases l2 : c < a <;> simp_all <;> omega

theorem bytes_ext {a b : ByteArray} (h : a.data.toList = b.data.toList) : a = b := by
  cases a with | mk a => cases b with | mk b =>
    simp only [ByteArray.mk.injEq]
    exact Array.toList_inj.1 h
theorem cmpS_self (a : ByteArray) : cmpS a a = 0 := compare_self _
theorem cmpS_zero {a b : ByteArray} (h : cmpS a b = 0) : a = b := bytes_ext (compare_zero h)
theorem cmpS_anti (a b : ByteArray) : cmpS b a = - cmpS a b := compare_anti _ _
theorem cmpS_tri (a b : ByteArray) : cmpS a b = -1 ∨ cmpS a b = 0 ∨ cmpS a b = 1 := compare_tri _ _
theorem cmpS_trans {a b c : ByteArray} (h : cmpS a b ≤ 0) (k : cmpS b c ≤ 0) : cmpS a c ≤ 0 := compare_trans h k

theorem isNaN_string (a : ByteArray) (w : World) : Calls Try.prog 112 #[.string a] w fun e w' => e = .returned (.bool false) ∧ w = w' := by
  go_enter Try.func112, Try.ntmps112
  go_wp2
  go_ret
  simp

theorem cmpS_lt {a b : ByteArray} (h : Op.bytesLess a.toList b.toList = true) : cmpS a b = -1 := by
  rw [ByteArray.toList_eq, ByteArray.toList_eq, less_iff] at h
  have := cmpS_tri a b
  unfold cmpS at *
  simp at h; omega
theorem cmpS_eq {a b : ByteArray} (h : (!a.toList == b.toList) = false) : cmpS a b = 0 := by
  rw [ByteArray.toList_eq, ByteArray.toList_eq] at h
  have e : a.data.toList = b.data.toList := by simpa using h
  unfold cmpS; rw [e]; exact compare_self _
theorem cmpS_gt {a b : ByteArray} (h : Op.bytesLess a.toList b.toList = false) (k : (!a.toList == b.toList) = true) : cmpS a b = 1 := by
  rw [ByteArray.toList_eq, ByteArray.toList_eq] at h k
  rw [less_iff] at h
  have := cmpS_tri a b
  have hne : cmpS a b ≠ 0 := fun e => by
    have := compare_zero e
    rw [this] at k; simp at k
  unfold cmpS at *
  simp at h; omega

/-- cmp.Or at two ints: the first that is not 0 -/
def orI (a b : Int) : Int := if a = 0 then b else a
set_option maxHeartbeats 1000000 in
theorem or_two (a b : Int) (g : Nat) (w : World) (h0 : w.cell? ⟨g, 0, none⟩ = some (.int .i64 a)) (h1 : w.cell? ⟨g, 1, none⟩ = some (.int .i64 b)) : Calls Try.prog 68 #[.slice (some ⟨g, 0, none⟩) 2 2] w fun e w' => e = .returned (.int .i64 (orI a b)) ∧ w = w' := by
  unfold orI
  by_cases ha : a = 0
  · subst ha
    by_cases hb : b = 0
    · subst hb
      go_enter Try.func68, Try.ntmps68
      go_wp2
      go_rounds 3
      go_ret
      exact ⟨rfl, rfl⟩
    · have hb' : (b != 0) = true := by simp [hb]
      go_enter Try.func68, Try.ntmps68
      go_wp2
      go_rounds 3
      go_ret
      exact ⟨rfl, rfl⟩
  · have ha' : (a != 0) = true := by simp [ha]
    rw [if_neg ha]
    go_enter Try.func68, Try.ntmps68
    go_wp2
    go_rounds 3
    go_ret
    exact ⟨rfl, rfl⟩
end Go.Proofs.Ytacchooggifnhaa
namespace Go.Proofs.Ytacchooggifnhaa
open Go.RowKit
set_option maxHeartbeats 8000000 in
set_option maxRecDepth 100000 in
theorem ref7_Check (e : Ev) (he : e.ok) (w : World) : Calls Try.prog 56 #[.agg (evC e)] w fun r w' => r = .returned (.int .i64 (checkE e)) ∧ Below w.heap.size w w' := by
  obtain ⟨h1, h2, h3⟩ := he
  go_enter Try.func56, Try.ntmps56
  go_wp2_with (first | (go_at_call 35; refine (ref_IsName _ (by assumption) _).mono ?_; rintro e w' ⟨rfl, rfl⟩) | (go_at_call 34; refine (ref_IsKey _ (by assumption) _).mono ?_; rintro e w' ⟨rfl, rfl⟩) | (go_at_call 80; refine (ref_IsTime _ _).mono ?_; rintro e w' ⟨rfl, rfl⟩))
  all_goals go_ret
  all_goals refine ⟨ret_int ?_, by go_grown⟩
  all_goals first | (simp_all [checkE]; done) | (simp_all [checkE, withinB]; done) | (simp_all [checkE, withinB]; omega) | (unfold checkE withinB at *; (repeat' split) <;> simp_all <;> omega)
end Go.Proofs.Ytacchooggifnhaa
namespace Go.Proofs.Ytacchooggifnhaa
open Go.RowKit
def ordE (a b : Ev) : Int := orI (cmpS a.shard b.shard) (cmpI a.number b.number)
set_option maxHeartbeats 2000000 in
theorem event_order (a b : Ev) (w : World) : Calls Try.prog 51 #[.agg (evC a), .agg (evC b)] w fun e w' => e = .returned (.int .i64 (ordE a b)) ∧ Below w.heap.size w w' := by
  have HO := Lib.hid (show orI (cmpS a.shard b.shard) (cmpI a.number b.number) = ordE a b from rfl)
  go_enter Try.func51, Try.ntmps51
  go_wp2_with fail
  refine wp_box2 fun W hsz hbW hA hB => ?_
  clear hsz
  go_region_held3 (S2 W w.heap.size (evC a) (w.heap.size + 1) (evC b)) (first | exact S2.start hA hB | exact S2.ext (by assumption) (by assumption) hA hB | exact S2.ext (ext_alloc _ _) (by assumption) hA hB | assumption) (first | (go_at_call 46; refine (strings_Compare _ _ _).mono ?_; rintro e w1 ⟨rfl, rfl⟩) | (go_at_call 27; refine (cmp_int _ _ _).mono ?_; rintro e w2 ⟨rfl, rfl⟩) | (go_at_call 68; refine (or_two (cmpS a.shard b.shard) (cmpI a.number b.number) _ _ (by simp) (by simp)).mono ?_; rintro e w3 ⟨rfl, rfl⟩))
  go_wp2
  go_ret
  exact ⟨ret_int HO.out, ext_trans hbW (S2.base (by assumption))⟩

theorem ord_neg (a b : Ev) : (ordE a b < 0) ↔ (cmpS a.shard b.shard = -1 ∨ cmpS a.shard b.shard = 0 ∧ a.number < b.number) := by
  have h1 := cmpS_tri a.shard b.shard
  have h2 : cmpI a.number b.number < 0 ↔ a.number < b.number := by
    unfold cmpI
    by_cases k1 : a.number < b.number
    · simp [k1]
    · by_cases k2 : b.number < a.number <;> simp [k1, k2]
  unfold ordE orI
  split <;> omega

theorem less_of (a b : ByteArray) : Op.bytesLess a.toList b.toList = decide (cmpS a b = -1) := by
  rw [ByteArray.toList_eq, ByteArray.toList_eq, less_iff, decide_eq_decide]
  have := cmpS_tri a b
  unfold cmpS at *
  omega
theorem beq_of (a b : ByteArray) : (a.toList == b.toList) = decide (cmpS a b = 0) := by
  rw [ByteArray.toList_eq, ByteArray.toList_eq, Bool.eq_iff_iff]
  simp only [beq_iff_eq, decide_eq_true_eq]
  exact ⟨fun h => by unfold cmpS; rw [h]; exact compare_self _, fun h => compare_zero h⟩
set_option maxHeartbeats 2000000 in
theorem ref7_ahead (a b : Ev) (w : World) : Calls Try.prog 57 #[.agg (evC a), .agg (evC b)] w fun e w' => e = .returned (.bool (decide (ordE a b < 0))) ∧ Below w.heap.size w w' := by
  have hO := ord_neg a b
  have h3 := cmpS_tri a.shard b.shard
  have h1 := less_of a.shard b.shard
  have h2 := beq_of a.shard b.shard
  rcases h3 with h3 | h3 | h3
  · rw [h3] at h1 h2 hO
    rw [show decide (ordE a b < 0) = true by simp [hO]]
    simp only [decide_true] at h1
    clear hO h3 h2
    go_enter Try.func57, Try.ntmps57
    go_wp2
    go_ret
    exact ⟨rfl, by go_grown⟩
  · rw [h3] at h1 h2 hO
    rw [show decide (ordE a b < 0) = decide (a.number < b.number) by rw [decide_eq_decide, hO]; simp]
    have h1' : Op.bytesLess a.shard.toList b.shard.toList = false := by rw [h1]; rfl
    have h2' : (a.shard.toList == b.shard.toList) = true := by rw [h2]; rfl
    clear hO h3 h1 h2
    go_enter Try.func57, Try.ntmps57
    go_wp2
    go_ret
    exact ⟨rfl, by go_grown⟩
  · rw [h3] at h1 h2 hO
    rw [show decide (ordE a b < 0) = false by simp; have := hO; omega]
    have h1' : Op.bytesLess a.shard.toList b.shard.toList = false := by rw [h1]; rfl
    have h2' : (a.shard.toList == b.shard.toList) = false := by rw [h2]; rfl
    clear hO h3 h1 h2
    go_enter Try.func57, Try.ntmps57
    go_wp2
    go_ret
    exact ⟨rfl, by go_grown⟩
end Go.Proofs.Ytacchooggifnhaa
namespace Go.Proofs.Ytacchooggifnhaa
open Go.RowKit
def evL (e : Ev) : List Value := (evC e).toList
theorem evL_len (e : Ev) : (evL e).length = 8 := rfl
def newAt (l : List Ev) : Nat → Bool
  | 0 => true
  | k + 1 => decide ((l[k + 1]?).map Ev.shard ≠ (l[k]?).map Ev.shard)
def shardsTo (l : List Ev) : Nat → List ByteArray
  | 0 => []
  | k + 1 => shardsTo l k ++ (if newAt l k then ((l[k]?).map Ev.shard).toList else [])
def shardsOf (l : List Ev) : List ByteArray := shardsTo l l.length
theorem shardsTo_le (l : List Ev) : ∀ k, (shardsTo l k).length ≤ k
  | 0 => Nat.le_refl _
  | k + 1 => by
    have := shardsTo_le l k
    simp only [shardsTo, List.length_append]
    split
    · cases l[k]? <;> simp <;> omega
    · simp; omega
/-- the eight cells of an event -/
theorem ev_cells {w : World} {a : Option Addr} {n c k : Nat} {l : List Ev} {e : Ev} (s : Sl w (.slice a n c) n (l.flatMap evL)) (h : l[k]? = some e) :
    ∃ b o, a = some ⟨b, o, none⟩ ∧ w.cell? ⟨b, o + k * 8, none⟩ = some (.string e.shard) ∧ w.cell? ⟨b, o + k * 8 + 1, none⟩ = some (.int .i64 e.number) ∧ w.cell? ⟨b, o + k * 8 + 2, none⟩ = some (.int .i64 e.kind) ∧ w.cell? ⟨b, o + k * 8 + 3, none⟩ = some (.int .i64 e.time) ∧
      w.cell? ⟨b, o + k * 8 + 4, none⟩ = some (.string e.key) ∧ w.cell? ⟨b, o + k * 8 + 5, none⟩ = some (.string e.name) ∧ w.cell? ⟨b, o + k * 8 + 6, none⟩ = some (.int .i64 e.arm) ∧ w.cell? ⟨b, o + k * 8 + 7, none⟩ = some (.int .i64 e.n) := by
  obtain ⟨b, o, ha, hc⟩ := s.elem evL_len (by omega) h
  exact ⟨b, o, ha, hc 0 _ rfl, hc 1 _ rfl, hc 2 _ rfl, hc 3 _ rfl, hc 4 _ rfl, hc 5 _ rfl, hc 6 _ rfl, hc 7 _ rfl⟩
theorem Sl.len_le {w : World} {a : Option Addr} {n c : Nat} {cs : List Value} (s : Sl w (.slice a n c) n cs) : n ≤ 9223372036854775807 := by
  obtain ⟨_, _, hv, h1, h2, _⟩ := s; cases hv; unfold maxLen at h2; omega

set_option maxHeartbeats 4000000 in
theorem event_shards (l : List Ev) (a : Option Addr) (c : Nat) (w : World) (hs : Sl w (.slice a l.length c) l.length (l.flatMap evL)) :
    Calls Try.prog 52 #[.slice a l.length c] w fun e w' => e = .returned (.int .i64 (shardsOf l).length) ∧ Below w.heap.size w w' := by
  have hl := hs.len_le
  go_enter Try.func52, Try.ntmps52
  go_wp2
  go_loopw [3, 8] (fun t i wr => ∃ k : Nat, k ≤ l.length ∧ i = .int .i64 k ∧ t = .int .i64 (shardsTo l k).length ∧ Below w.heap.size w wr) (fun _ i _ => l.length - (intOf i).toNat)
  case atStart => exact ⟨0, by omega, rfl, rfl, Below.refl _ _⟩
  case round =>
    obtain ⟨k, hk, rfl, rfl, hb⟩ := hrel
    have hle := shardsTo_le l k
    by_cases hlt : k < l.length
    · have hgk := List.getElem?_eq_getElem hlt
      generalize l[k] = s at hgk
      obtain ⟨b, o, rfl, e0, e1, e2, e3, e4, e5, e6, e7⟩ := ev_cells (hs.ext hb) hgk
      go_upto_region 5 with (fail)
      clear e0 e1 e2 e3 e4 e5 e6 e7
      refine wp_box1 fun X hszX hbX hS => ?_
      have hbx := ext_trans hb hbX
      have g0 := hS.2 0
      clear hszX hS
      by_cases h0 : k = 0
      · subst h0
        have HZ : Hid (shardsTo l 1 = [s.shard]) := by exact (by simp [shardsTo, newAt, hgk] : shardsTo l 1 = [s.shard])
        clear hgk
        go_quiet (fail)
        go_wp2
        exact ⟨⟨1, by omega, rfl, by rw [HZ.out]; rfl, below_drewN hbx _⟩, by simp [intOf]; omega⟩
      · obtain ⟨j, rfl⟩ : ∃ j, k = j + 1 := ⟨k - 1, by omega⟩
        have hgj := List.getElem?_eq_getElem (show j < l.length by omega)
        generalize l[j] = s' at hgj
        obtain ⟨b', o', hb', f0, _⟩ := ev_cells (hs.ext hbx) hgj
        cases hb'
        have HSH : Hid (shardsTo l (j + 1 + 1) = shardsTo l (j + 1) ++ if s.shard = s'.shard then [] else [s.shard]) := by
          have : shardsTo l (j + 1 + 1) = shardsTo l (j + 1) ++ if s.shard = s'.shard then [] else [s.shard] := by
            rw [shardsTo, newAt, hgk, hgj]
            by_cases hq : s.shard = s'.shard <;> simp [hq]
          exact this
        clear hgk hgj h0
        have hj0 : (0 : Int) ≤ (j : Int) := Int.natCast_nonneg _
        have hj1 : (j : Int) < (l.length : Int) := by omega
        have hne0 : ((j : Int) + 1 == 0) = false := by simp; omega
        have hwj : IntKind.i64.wrap (j : Int) = (j : Int) := IntWalk.i64_in _ (by omega)
        by_cases hq : s.shard = s'.shard
        · have hq1 : (s.shard.toList == s'.shard.toList) = true := by rw [hq]; simp
          have HQ := Lib.hid hq
          clear hq
          go_quiet (fail)
          clear hwj
          go_wp2
          exact ⟨⟨j + 1 + 1, by omega, by go_num, by rw [HSH.out, if_pos HQ.out]; simp, below_drewN hbx _⟩, by simp [intOf]; omega⟩
        · have hq1 : (s.shard.toList == s'.shard.toList) = false := by
            simp only [beq_eq_false_iff_ne, ne_eq, ByteArray.toList_eq]; exact fun h => hq (bytes_ext h)
          have HQ := Lib.hid hq
          clear hq
          go_quiet (fail)
          clear hwj
          go_wp2
          exact ⟨⟨j + 1 + 1, by omega, by go_num, by rw [HSH.out, if_neg HQ.out]; simp, below_drewN hbx _⟩, by simp [intOf]; omega⟩
    · have hkl : k = l.length := by omega
      have HK := Lib.hid hkl
      clear hkl
      go_wp2
      go_ret
      exact ⟨ret_int (by unfold shardsOf; rw [← HK.out]), hb⟩
end Go.Proofs.Ytacchooggifnhaa
namespace Go.Proofs.Ytacchooggifnhaa
open Go.RowKit
theorem string_info : (Try.prog.info? 9).map (fun i => (i.zero, i.size, i.bytes)) = some (some (.string { data := #[] }), 1, 16) := by kernel_rfl
theorem shards_last (l : List Ev) : ∀ k, k < l.length → (shardsTo l (k + 1)).getLast? = (l[k]?).map Ev.shard
  | 0, h => by simp [shardsTo, newAt, List.getElem?_eq_getElem h]
  | k + 1, h => by
    have ih := shards_last l k (by omega)
    rw [shardsTo]
    have h1 := List.getElem?_eq_getElem h
    have h2 := List.getElem?_eq_getElem (show k < l.length by omega)
    simp only [newAt, h1, h2, Option.map_some] at *
    by_cases hq : l[k + 1].shard = l[k].shard
    · simp [hq, ih]
    · simp [hq]
theorem shards_pos (l : List Ev) (k : Nat) (h : k < l.length) : 0 < (shardsTo l (k + 1)).length := by
  have := shards_last l k h
  rw [List.getElem?_eq_getElem h] at this
  cases hq : shardsTo l (k + 1) with
  | nil => rw [hq] at this; simp at this
  | cons _ _ => simp
/-- what a slice that the call owns looks like, and reads as -/
theorem own_form {w : World} {base e size n : Nat} {v : Value} {xs : List Value} (h : w.ownsRow base e size v n xs) (hn : 0 < n) : ∃ g cap, v = .slice (some ⟨g, 0, none⟩) n cap ∧ g < w.heap.size ∧ ∀ i x, xs[i]? = some x → w.cell? ⟨g, i, none⟩ = some x := by
  obtain ⟨a, cap, rfl, _, _, _, hc⟩ := Sl.ofOwn h
  obtain ⟨h1, h2⟩ := h
  rcases h2 with ⟨h0, rfl⟩ | ⟨g, cap', cur, hv, hb, hg, _⟩
  · omega
  · cases hv
    refine ⟨g, cap, rfl, (Array.getElem?_eq_some_iff.1 hg).1, fun i x hx => ?_⟩
    obtain ⟨b, o, hbo, hcell⟩ := hc i x hx
    cases hbo
    simpa using hcell
def ShardsPost (l : List Ev) (w : World) (e : Ending) (w' : World) : Prop :=
  ∃ a cap, e = .returned (.slice a (shardsOf l).length cap) ∧ Sl w' (.slice a (shardsOf l).length cap) (shardsOf l).length ((shardsOf l).map Value.string) ∧ Below w.heap.size w w'
set_option maxHeartbeats 4000000 in
theorem ref7_shards (l : List Ev) (hl2 : l.length ≤ 20000) (a : Option Addr) (c : Nat) (w : World) (hs : Sl w (.slice a l.length c) l.length (l.flatMap evL)) :
    Calls Try.prog 58 #[.slice a l.length c] w (ShardsPost l w) := by
  have HI := Lib.hid string_info
  go_enter Try.func58, Try.ntmps58
  go_wp2
  go_loopw [3, 9] (fun v i wr => ∃ k n : Nat, k ≤ l.length ∧ n ≤ k ∧ i = .int .i64 k ∧ wr.ownsRow w.heap.size 9 1 v n ((shardsTo l k).map Value.string) ∧ Hid ((shardsTo l k).length = n) ∧ Below w.heap.size w wr) (fun _ i _ => l.length - (intOf i).toNat)
  case atStart => exact ⟨0, 0, by omega, by omega, rfl, World.ownsRow_nil _ _ _ _, rfl, Below.refl _ _⟩
  case round =>
    obtain ⟨k, n, hk, hnk, rfl, hown, HN, hb⟩ := hrel
    by_cases hlt : k < l.length
    · have hgk := List.getElem?_eq_getElem hlt
      generalize l[k] = s at hgk
      obtain ⟨b, o, rfl, e0, e1, e2, e3, e4, e5, e6, e7⟩ := ev_cells (hs.ext hb) hgk
      have hsz := hb.size
      have HK1 : Hid (shardsTo l (k + 1) = shardsTo l k ++ if newAt l k then [s.shard] else []) := by
        have : shardsTo l (k + 1) = shardsTo l k ++ if newAt l k then [s.shard] else [] := by rw [shardsTo, hgk]; rfl
        exact this
      have hb0 : ∀ q, u3.ownBlock = some q → w.heap.size ≤ q := fun q hq => (hown.lt q hq).1
      have HB0 := Lib.hid hb0
      clear hb0
      go_upto_region 5 with (fail)
      clear e0 e1 e2 e3 e4 e5 e6 e7
      refine wp_box1 fun X hszX hbX hX => ?_
      have hbx := ext_trans hb hbX
      have hownX := ownsRow_ext hown hbX
      have hszx := hbx.size
      clear hszX hown hb hbX hsz
      have g0 := hX.2 0
      by_cases h0 : k = 0
      · subst h0
        obtain rfl : n = 0 := by omega
        obtain ⟨a3, c3, rfl, _⟩ := Sl.ofOwn hownX
        have HN2 : Hid (shardsTo l 1 = shardsTo l 0 ++ [s.shard]) := by have := HK1.out; simp [newAt] at this; exact this
        go_wp2_with fail
        go_quiet (fail)
        have g1 := (Box.ext hX (below_drewN (Below.refl _ _) nq)).2 0
        go_wp2_with (at_builtin; refine wpList_append_sl rfl _ _ 28 rfl w.heap.size 9 Try.underlying28 HI.out rfl (by decide) rfl (ownsRow_ext (ownsRow_ext hownX (below_drewN (Below.refl _ _) nq)) (ext_alloc _ _)) rfl (Sl.new _ #[.string s.shard] _ 1 1 (by omega) (by decide)) rfl (by intro u hu; simp at hu; subst hu; rfl) (by unfold maxLen; omega) (by omega) (by simp; omega) ?_; intro v7 w7 hown7 hg7 _)
        have hown8 : w7.ownsRow w.heap.size 9 1 v7 (0 + 1) ((shardsTo l (0 + 1)).map Value.string) := by rw [HN2.out, List.map_append]; exact hown7
        have hb8 : Below w.heap.size w w7 := (ext_trans (ext_trans hbx (below_drewN (Below.refl _ _) nq)) (ext_alloc _ _)).grown hg7 (by simp; omega) (fun q hq => HB0.out q hq)
        have HN3 : Hid ((shardsTo l (0 + 1)).length = 0 + 1) := by
          have h1 := HN.out
          exact (by rw [HN2.out, List.length_append, h1]; rfl : (shardsTo l (0 + 1)).length = 0 + 1)
        clear hown7 hg7 g1
        go_wp2
        go_roundw
        case rel => exact ⟨0 + 1, 0 + 1, by omega, by omega, by go_num, hown8, HN3, hb8⟩
        case measure => simp [intOf]; omega
      · obtain ⟨j, rfl⟩ : ∃ j, k = j + 1 := ⟨k - 1, by omega⟩
        have hgj := List.getElem?_eq_getElem (show j < l.length by omega)
        have hpos := shards_pos l j (by omega)
        have hlast := shards_last l j (by omega)
        have hnew : newAt l (j + 1) = decide (s.shard ≠ l[j].shard) := by rw [newAt, hgk, hgj]; simp
        rw [hgj] at hlast
        generalize l[j] = s' at hlast hgj hnew
        rw [HN.out] at hpos
        obtain ⟨g, c3, rfl, hg, hcl⟩ := own_form hownX hpos
        obtain ⟨m, rfl⟩ : ∃ m, n = m + 1 := ⟨n - 1, by omega⟩
        have hcm : X.cell? ⟨g, m, none⟩ = some (.string s'.shard) := by
          refine hcl m _ ?_
          rw [List.getLast?_eq_getElem?, HN.out] at hlast
          rw [List.getElem?_map, show m = m + 1 - 1 by omega, hlast]; rfl
        have hm0 : (0 : Int) ≤ (m : Int) := Int.natCast_nonneg _
        have hne0 : ((m : Int) + 1 == 0) = false := by simp; omega
        have hwm : IntKind.i64.wrap (m : Int) = (m : Int) := IntWalk.i64_in _ (by omega)
        have hm1 : (m : Int) < (m : Int) + 1 := by omega
        clear hgk hgj hlast hcl hpos
        by_cases hq : s.shard = s'.shard
        · have hq1 : (s'.shard.toList == s.shard.toList) = true := by rw [hq]; simp
          have HN2 : Hid (shardsTo l (j + 1 + 1) = shardsTo l (j + 1)) := by have := HK1.out; rw [hnew] at this; simp [hq] at this; exact this
          clear hq hnew
          go_wp2_with fail
          go_quiet (fail)
          clear hwm
          have hownY : (X.drewN nq).ownsRow w.heap.size 9 1 (.slice (some ⟨g, 0, none⟩) (m + 1) c3) (m + 1) ((shardsTo l (j + 1 + 1)).map Value.string) := by rw [HN2.out]; exact ownsRow_ext hownX (below_drewN (Below.refl _ _) nq)
          have HN3 : Hid ((shardsTo l (j + 1 + 1)).length = m + 1) := by rw [HN2.out]; exact HN
          have hb8 := ext_trans hbx (below_drewN (Below.refl _ _) nq)
          go_wp2
          go_roundw
          case rel => exact ⟨j + 1 + 1, m + 1, by omega, by omega, by go_num, hownY, HN3, hb8⟩
          case measure => simp [intOf]; omega
        · have hq1 : (s'.shard.toList == s.shard.toList) = false := by
            simp only [beq_eq_false_iff_ne, ne_eq, ByteArray.toList_eq]; exact fun h => hq (bytes_ext h).symm
          have HN2 : Hid (shardsTo l (j + 1 + 1) = shardsTo l (j + 1) ++ [s.shard]) := by have := HK1.out; rw [hnew] at this; simp [hq] at this; exact this
          clear hq hnew
          go_wp2_with fail
          go_quiet (fail)
          clear hwm
          have g1 := (Box.ext hX (below_drewN (Below.refl _ _) nq)).2 0
          go_wp2_with (at_builtin; refine wpList_append_sl rfl _ _ 28 rfl w.heap.size 9 Try.underlying28 HI.out rfl (by decide) rfl (ownsRow_ext (ownsRow_ext hownX (below_drewN (Below.refl _ _) nq)) (ext_alloc _ _)) rfl (Sl.new _ #[.string s.shard] _ 1 1 (by omega) (by decide)) rfl (by intro u hu; simp at hu; subst hu; rfl) (by unfold maxLen; omega) (by omega) (by simp; omega) ?_; intro v7 w7 hown7 hg7 _)
          have hown8 : w7.ownsRow w.heap.size 9 1 v7 (m + 1 + 1) ((shardsTo l (j + 1 + 1)).map Value.string) := by rw [HN2.out, List.map_append]; exact hown7
          have hb8 : Below w.heap.size w w7 := (ext_trans (ext_trans hbx (below_drewN (Below.refl _ _) nq)) (ext_alloc _ _)).grown hg7 (by simp; omega) (fun q hq => HB0.out q hq)
          have HN3 : Hid ((shardsTo l (j + 1 + 1)).length = m + 1 + 1) := by
            have h1 := HN.out
            exact (by rw [HN2.out, List.length_append, h1]; rfl : (shardsTo l (j + 1 + 1)).length = m + 1 + 1)
          clear hown7 hg7 g1
          go_wp2
          go_roundw
          case rel => exact ⟨j + 1 + 1, m + 1 + 1, by omega, by omega, by go_num, hown8, HN3, hb8⟩
          case measure => simp [intOf]; omega
    · have hkl : k = l.length := by omega
      have HK := Lib.hid hkl
      clear hkl
      obtain ⟨a3, c3, rfl, _⟩ := Sl.ofOwn hown
      go_wp2
      go_ret
      refine ⟨a3, c3, ?_, ?_, hb⟩
      · unfold shardsOf; rw [← HK.out, HN.out]; rfl
      · unfold shardsOf; rw [← HK.out, HN.out]; exact Sl.ofOwn hown
end Go.Proofs.Ytacchooggifnhaa
