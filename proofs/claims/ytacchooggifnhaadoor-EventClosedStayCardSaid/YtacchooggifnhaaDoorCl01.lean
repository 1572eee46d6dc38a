/- Comparisons of Go's library: cmp.Compare at ints and strings, strings.Compare, cmp.Or at two ints. The order of events. How many shards a log has: event.shards and the reference's shards. The reference's shards. CheckLog of package event, and the reference's. Missing of package event, and the reference's. -/
import Derived.Test.YtacchooggifnhaaDoorProg
import Derived.Test.YtacchooggifnhaaDoorCl00
import Derived.Lib.Bytealg
import Derived.Deep.QuietTactic
import Derived.BigQuiet
namespace Go.Proofs.YtacchooggifnhaaDoor
open Go.RowKit

def cmpI (a b : Int) : Int := if a < b then -1 else if b < a then 1 else 0
def cmpS (a b : ByteArray) : Int := Lib.compareBytes a.data.toList b.data.toList

theorem isNaN_int (a : Int) (w : World) : Calls Tryd.prog 47 #[.int .i64 a] w fun e w' => e = .returned (.bool false) ∧ w = w' := by
  go_enter Tryd.func47, Tryd.ntmps47
  go_wp2
  go_ret
  simp

set_option maxHeartbeats 1000000 in
theorem cmp_int (a b : Int) (w : World) : Calls Tryd.prog 38 #[.int .i64 a, .int .i64 b] w fun e w' => e = .returned (.int .i64 (cmpI a b)) ∧ w = w' := by
  unfold cmpI
  by_cases h1 : a < b
  · rw [if_pos h1]
    go_enter Tryd.func38, Tryd.ntmps38
    go_wp2_with (go_at_call 47; refine (isNaN_int _ _).mono ?_; rintro e w' ⟨rfl, rfl⟩)
    go_ret
    exact ⟨rfl, rfl⟩
  · rw [if_neg h1]
    by_cases h2 : b < a
    · rw [if_pos h2]
      go_enter Tryd.func38, Tryd.ntmps38
      go_wp2_with (go_at_call 47; refine (isNaN_int _ _).mono ?_; rintro e w' ⟨rfl, rfl⟩)
      go_ret
      exact ⟨rfl, rfl⟩
    · rw [if_neg h2]
      go_enter Tryd.func38, Tryd.ntmps38
      go_wp2_with (go_at_call 47; refine (isNaN_int _ _).mono ?_; rintro e w' ⟨rfl, rfl⟩)
      go_ret
      exact ⟨rfl, rfl⟩

set_option maxRecDepth 100000 in
set_option maxHeartbeats 1000000 in
theorem compareString (a b : ByteArray) (w : World) : Calls Tryd.prog 41 #[.string a, .string b] w fun e w' => e = .returned (.int .i64 (cmpS a b)) ∧ w = w' := by
  go_enter Tryd.func41, Tryd.ntmps41
  go_wp2
  rw [run_callFunc_extern Tryd.func58 (by kernel_rfl) (by kernel_rfl) (by kernel_rfl) (e := Extern.BytealgCompare.compare) (by kernel_rfl), Lib.run_compareString]
  simp only [Result.andThen]
  rw [Oper.upon_value]
  go_wp2
  go_ret
  exact ⟨rfl, rfl⟩

set_option maxHeartbeats 1000000 in
theorem strings_Compare (a b : ByteArray) (w : World) : Calls Tryd.prog 31 #[.string a, .string b] w fun e w' => e = .returned (.int .i64 (cmpS a b)) ∧ w = w' := by
  go_enter Tryd.func31, Tryd.ntmps31
  go_wp2_with (go_at_call 41; refine (compareString _ _ _).mono ?_; rintro e w' ⟨rfl, rfl⟩)
  go_ret
  exact ⟨rfl, rfl⟩

/-- '<' on the bytes of two strings, as the model has it, by compareBytes -/
theorem less_iff : ∀ (a b : List UInt8), Op.bytesLess a b = decide (Lib.compareBytes a b < 0)
  | [], [] => by simp [Op.bytesLess, Lib.compareBytes]
  | [], _ :: _ => by simp [Op.bytesLess, Lib.compareBytes]
  | _ :: _, [] => by simp [Op.bytesLess, Lib.compareBytes]
  | x :: a, y :: b => by
    have ih := less_iff a b
    simp only [Op.bytesLess, Lib.compareBytes]
    by_cases h1 : x < y
    · simp [h1]
    · by_cases h2 : y < x
      · have : (x == y) = false := by
          rw [beq_eq_false_iff_ne]; intro e; subst e; exact h1 h2
        simp [h1, h2, this]
      · have : x = y := UInt8.le_antisymm (UInt8.not_lt.1 h2) (UInt8.not_lt.1 h1)
        subst this
        simp [h1, ih]
theorem compare_self : ∀ a : List UInt8, Lib.compareBytes a a = 0
  | [] => rfl
  | x :: a => by simp [Lib.compareBytes, UInt8.lt_irrefl, compare_self a]
theorem compare_zero : ∀ {a b : List UInt8}, Lib.compareBytes a b = 0 → a = b
  | [], [], _ => rfl
  | [], _ :: _, h => by simp [Lib.compareBytes] at h
  | _ :: _, [], h => by simp [Lib.compareBytes] at h
  | x :: a, y :: b, h => by
    simp only [Lib.compareBytes] at h
    by_cases h1 : x < y
    · simp [h1] at h
    · by_cases h2 : y < x
      · simp [h1, h2] at h
      · have : x = y := UInt8.le_antisymm (UInt8.not_lt.1 h2) (UInt8.not_lt.1 h1)
        subst this
        simp [h1] at h
        rw [compare_zero h]
theorem compare_anti : ∀ (a b : List UInt8), Lib.compareBytes b a = - Lib.compareBytes a b
  | [], [] => rfl
  | [], _ :: _ => rfl
  | _ :: _, [] => rfl
  | x :: a, y :: b => by
    have ih := compare_anti a b
    simp only [Lib.compareBytes]
    by_cases h1 : x < y
    · have h2 : ¬ y < x := fun h => UInt8.lt_irrefl _ (UInt8.lt_trans h1 h)
      simp [h1, h2]
    · by_cases h2 : y < x
      · simp [h1, h2]
      · simp [h1, h2, ih]
theorem compare_tri : ∀ (a b : List UInt8), Lib.compareBytes a b = -1 ∨ Lib.compareBytes a b = 0 ∨ Lib.compareBytes a b = 1
  | [], [] => .inr (.inl rfl)
  | [], _ :: _ => .inl rfl
  | _ :: _, [] => .inr (.inr rfl)
  | x :: a, y :: b => by
    have ih := compare_tri a b
    simp only [Lib.compareBytes]
    by_cases h1 : x < y
    · simp [h1]
    · by_cases h2 : y < x
      · simp [h1, h2]
      · simpa [h1, h2] using ih
theorem compare_trans : ∀ {a b c : List UInt8}, Lib.compareBytes a b ≤ 0 → Lib.compareBytes b c ≤ 0 → Lib.compareBytes a c ≤ 0
  | [], _, [], _, _ => by simp [Lib.compareBytes]
  | [], _, _ :: _, _, _ => by simp [Lib.compareBytes]
  | _ :: _, [], _, h, _ => by simp [Lib.compareBytes] at h
  | _ :: _, _ :: _, [], _, h => by simp [Lib.compareBytes] at h
  | x :: a, y :: b, z :: c, h, k => by
    simp only [Lib.compareBytes] at h k ⊢
    by_cases h1 : x < y
    · by_cases k1 : y < z
      · simp [UInt8.lt_trans h1 k1]
      · by_cases k2 : z < y
        · simp [k1, k2] at k
        · have : y = z := UInt8.le_antisymm (UInt8.not_lt.1 k2) (UInt8.not_lt.1 k1)
          subst this; simp [h1]
    · by_cases h2 : y < x
      · simp [h1, h2] at h
      · have : x = y := UInt8.le_antisymm (UInt8.not_lt.1 h2) (UInt8.not_lt.1 h1)
        subst this
        simp only [h1, if_false] at h
        by_cases k1 : x < z
        · simp [k1]
        · by_cases k2 : z < x
          · simp [k1, k2] at k
          · simp only [k1, k2, if_false] at k ⊢
            exact compare_trans h k

theorem cmpI_self (a : Int) : cmpI a a = 0 := by unfold cmpI; simp
theorem cmpI_zero {a b : Int} (h : cmpI a b = 0) : a = b := by
  unfold cmpI at h
  by_cases h1 : a < b
  · simp [h1] at h
  · by_cases h2 : b < a
    · simp [h1, h2] at h
    · omega
theorem cmpI_anti (a b : Int) : cmpI b a = - cmpI a b := by unfold cmpI; split <;> split <;> simp_all <;> omega
theorem cmpI_trans {a b c : Int} (h : cmpI a b ≤ 0) (k : cmpI b c ≤ 0) : cmpI a c ≤ 0 := by
  unfold cmpI at *
  by_cases h1 : a < b <;> by_cases h2 : b < a <;> by_cases k1 : b < c <;> by_cases k2 : c < b <;> by_cases l1 : a < c <;> by_cases l2 : c < a <;> simp_all <;> omega

theorem bytes_ext {a b : ByteArray} (h : a.data.toList = b.data.toList) : a = b := by
  cases a with | mk a => cases b with | mk b =>
    simp only [ByteArray.mk.injEq]
    exact Array.toList_inj.1 h
theorem cmpS_self (a : ByteArray) : cmpS a a = 0 := compare_self _
theorem cmpS_zero {a b : ByteArray} (h : cmpS a b = 0) : a = b := bytes_ext (compare_zero h)
theorem cmpS_anti (a b : ByteArray) : cmpS b a = - cmpS a b := compare_anti _ _
theorem cmpS_tri (a b : ByteArray) : cmpS a b = -1 ∨ cmpS a b = 0 ∨ cmpS a b = 1 := compare_tri _ _
theorem cmpS_trans {a b c : ByteArray} (h : cmpS a b ≤ 0) (k : cmpS b c ≤ 0) : cmpS a c ≤ 0 := compare_trans h k

theorem isNaN_string (a : ByteArray) (w : World) : Calls Tryd.prog 78 #[.string a] w fun e w' => e = .returned (.bool false) ∧ w = w' := by
  go_enter Tryd.func78, Tryd.ntmps78
  go_wp2
  go_ret
  simp

theorem cmpS_lt {a b : ByteArray} (h : Op.bytesLess a.toList b.toList = true) : cmpS a b = -1 := by
  rw [ByteArray.toList_eq, ByteArray.toList_eq, less_iff] at h
  have := cmpS_tri a b
  unfold cmpS at *
  simp at h; omega
theorem cmpS_eq {a b : ByteArray} (h : (!a.toList == b.toList) = false) : cmpS a b = 0 := by
  rw [ByteArray.toList_eq, ByteArray.toList_eq] at h
  have e : a.data.toList = b.data.toList := by simpa using h
  unfold cmpS; rw [e]; exact compare_self _
theorem cmpS_gt {a b : ByteArray} (h : Op.bytesLess a.toList b.toList = false) (k : (!a.toList == b.toList) = true) : cmpS a b = 1 := by
  rw [ByteArray.toList_eq, ByteArray.toList_eq] at h k
  rw [less_iff] at h
  have := cmpS_tri a b
  have hne : cmpS a b ≠ 0 := fun e => by
    have := compare_zero e
    rw [this] at k; simp at k
  unfold cmpS at *
  simp at h; omega

/-- cmp.Or at two ints: the first that is not 0 -/
def orI (a b : Int) : Int := if a = 0 then b else a
set_option maxHeartbeats 1000000 in
theorem or_two (a b : Int) (g : Nat) (w : World) (h0 : w.cell? ⟨g, 0, none⟩ = some (.int .i64 a)) (h1 : w.cell? ⟨g, 1, none⟩ = some (.int .i64 b)) : Calls Tryd.prog 37 #[.slice (some ⟨g, 0, none⟩) 2 2] w fun e w' => e = .returned (.int .i64 (orI a b)) ∧ w = w' := by
  unfold orI
  by_cases ha : a = 0
  · subst ha
    by_cases hb : b = 0
    · subst hb
      go_enter Tryd.func37, Tryd.ntmps37
      go_wp2
      go_rounds 3
      go_ret
      exact ⟨rfl, rfl⟩
    · have hb' : (b != 0) = true := by simp [hb]
      go_enter Tryd.func37, Tryd.ntmps37
      go_wp2
      go_rounds 3
      go_ret
      exact ⟨rfl, rfl⟩
  · have ha' : (a != 0) = true := by simp [ha]
    rw [if_neg ha]
    go_enter Tryd.func37, Tryd.ntmps37
    go_wp2
    go_rounds 3
    go_ret
    exact ⟨rfl, rfl⟩
end Go.Proofs.YtacchooggifnhaaDoor
namespace Go.Proofs.YtacchooggifnhaaDoor
open Go.RowKit
def ordE (a b : Ev) : Int := orI (cmpS a.shard b.shard) (cmpI a.number b.number)
set_option maxHeartbeats 2000000 in
theorem event_order (a b : Ev) (w : World) : Calls Tryd.prog 25 #[.agg (evC a), .agg (evC b)] w fun e w' => e = .returned (.int .i64 (ordE a b)) ∧ Below w.heap.size w w' := by
  have HO := Lib.hid (show orI (cmpS a.shard b.shard) (cmpI a.number b.number) = ordE a b from rfl)
  go_enter Tryd.func25, Tryd.ntmps25
  go_wp2_with fail
  refine wp_box2 fun W hsz hbW hA hB => ?_
  clear hsz
  go_region_held3 (S2 W w.heap.size (evC a) (w.heap.size + 1) (evC b)) (first | exact S2.start hA hB | exact S2.ext (by assumption) (by assumption) hA hB | exact S2.ext (ext_alloc _ _) (by assumption) hA hB | assumption) (first | (go_at_call 31; refine (strings_Compare _ _ _).mono ?_; rintro e w1 ⟨rfl, rfl⟩) | (go_at_call 38; refine (cmp_int _ _ _).mono ?_; rintro e w2 ⟨rfl, rfl⟩) | (go_at_call 37; refine (or_two (cmpS a.shard b.shard) (cmpI a.number b.number) _ _ (by simp) (by simp)).mono ?_; rintro e w3 ⟨rfl, rfl⟩))
  go_wp2
  go_ret
  exact ⟨ret_int HO.out, ext_trans hbW (S2.base (by assumption))⟩

theorem ord_neg (a b : Ev) : (ordE a b < 0) ↔ (cmpS a.shard b.shard = -1 ∨ cmpS a.shard b.shard = 0 ∧ a.number < b.number) := by
  have h1 := cmpS_tri a.shard b.shard
  have h2 : cmpI a.number b.number < 0 ↔ a.number < b.number := by
    unfold cmpI
    by_cases k1 : a.number < b.number
    · simp [k1]
    · by_cases k2 : b.number < a.number <;> simp [k1, k2]
  unfold ordE orI
  split <;> omega

theorem less_of (a b : ByteArray) : Op.bytesLess a.toList b.toList = decide (cmpS a b = -1) := by
  rw [ByteArray.toList_eq, ByteArray.toList_eq, less_iff, decide_eq_decide]
  have := cmpS_tri a b
  unfold cmpS at *
  omega
theorem beq_of (a b : ByteArray) : (a.toList == b.toList) = decide (cmpS a b = 0) := by
  rw [ByteArray.toList_eq, ByteArray.toList_eq, Bool.eq_iff_iff]
  simp only [beq_iff_eq, decide_eq_true_eq]
  exact ⟨fun h => by unfold cmpS; rw [h]; exact compare_self _, fun h => compare_zero h⟩
end Go.Proofs.YtacchooggifnhaaDoor
namespace Go.Proofs.YtacchooggifnhaaDoor
open Go.RowKit
def evL (e : Ev) : List Value := (evC e).toList
theorem evL_len (e : Ev) : (evL e).length = 8 := rfl
def newAt (l : List Ev) : Nat → Bool
  | 0 => true
  | k + 1 => decide ((l[k + 1]?).map Ev.shard ≠ (l[k]?).map Ev.shard)
def shardsTo (l : List Ev) : Nat → List ByteArray
  | 0 => []
  | k + 1 => shardsTo l k ++ (if newAt l k then ((l[k]?).map Ev.shard).toList else [])
def shardsOf (l : List Ev) : List ByteArray := shardsTo l l.length
theorem shardsTo_le (l : List Ev) : ∀ k, (shardsTo l k).length ≤ k
  | 0 => Nat.le_refl _
  | k + 1 => by
    have := shardsTo_le l k
    simp only [shardsTo, List.length_append]
    split
    · cases l[k]? <;> simp <;> omega
    · simp; omega
/-- the eight cells of an event -/
theorem ev_cells {w : World} {a : Option Addr} {n c k : Nat} {l : List Ev} {e : Ev} (s : Sl w (.slice a n c) n (l.flatMap evL)) (h : l[k]? = some e) :
    ∃ b o, a = some ⟨b, o, none⟩ ∧ w.cell? ⟨b, o + k * 8, none⟩ = some (.string e.shard) ∧ w.cell? ⟨b, o + k * 8 + 1, none⟩ = some (.int .i64 e.number) ∧ w.cell? ⟨b, o + k * 8 + 2, none⟩ = some (.int .i64 e.kind) ∧ w.cell? ⟨b, o + k * 8 + 3, none⟩ = some (.int .i64 e.time) ∧
      w.cell? ⟨b, o + k * 8 + 4, none⟩ = some (.string e.key) ∧ w.cell? ⟨b, o + k * 8 + 5, none⟩ = some (.string e.name) ∧ w.cell? ⟨b, o + k * 8 + 6, none⟩ = some (.int .i64 e.arm) ∧ w.cell? ⟨b, o + k * 8 + 7, none⟩ = some (.int .i64 e.n) := by
  obtain ⟨b, o, ha, hc⟩ := s.elem evL_len (by omega) h
  exact ⟨b, o, ha, hc 0 _ rfl, hc 1 _ rfl, hc 2 _ rfl, hc 3 _ rfl, hc 4 _ rfl, hc 5 _ rfl, hc 6 _ rfl, hc 7 _ rfl⟩
theorem Sl.len_le {w : World} {a : Option Addr} {n c : Nat} {cs : List Value} (s : Sl w (.slice a n c) n cs) : n ≤ 9223372036854775807 := by
  obtain ⟨_, _, hv, h1, h2, _⟩ := s; cases hv; unfold maxLen at h2; omega

set_option maxHeartbeats 4000000 in
theorem event_shards (l : List Ev) (a : Option Addr) (c : Nat) (w : World) (hs : Sl w (.slice a l.length c) l.length (l.flatMap evL)) :
    Calls Tryd.prog 26 #[.slice a l.length c] w fun e w' => e = .returned (.int .i64 (shardsOf l).length) ∧ Below w.heap.size w w' := by
  have hl := hs.len_le
  go_enter Tryd.func26, Tryd.ntmps26
  go_wp2
  go_loopw [3, 8] (fun t i wr => ∃ k : Nat, k ≤ l.length ∧ i = .int .i64 k ∧ t = .int .i64 (shardsTo l k).length ∧ Below w.heap.size w wr) (fun _ i _ => l.length - (intOf i).toNat)
  case atStart => exact ⟨0, by omega, rfl, rfl, Below.refl _ _⟩
  case round =>
    obtain ⟨k, hk, rfl, rfl, hb⟩ := hrel
    have hle := shardsTo_le l k
    by_cases hlt : k < l.length
    · have hgk := List.getElem?_eq_getElem hlt
      generalize l[k] = s at hgk
      obtain ⟨b, o, rfl, e0, e1, e2, e3, e4, e5, e6, e7⟩ := ev_cells (hs.ext hb) hgk
      go_upto_region 5 with (fail)
      clear e0 e1 e2 e3 e4 e5 e6 e7
      refine wp_box1 fun X hszX hbX hS => ?_
      have hbx := ext_trans hb hbX
      have g0 := hS.2 0
      clear hszX hS
      by_cases h0 : k = 0
      · subst h0
        have HZ : Hid (shardsTo l 1 = [s.shard]) := by exact (by simp [shardsTo, newAt, hgk] : shardsTo l 1 = [s.shard])
        clear hgk
        go_quiet (fail)
        go_wp2
        exact ⟨⟨1, by omega, rfl, by rw [HZ.out]; rfl, below_drewN hbx _⟩, by simp [intOf]; omega⟩
      · obtain ⟨j, rfl⟩ : ∃ j, k = j + 1 := ⟨k - 1, by omega⟩
        have hgj := List.getElem?_eq_getElem (show j < l.length by omega)
        generalize l[j] = s' at hgj
        obtain ⟨b', o', hb', f0, _⟩ := ev_cells (hs.ext hbx) hgj
        cases hb'
        have HSH : Hid (shardsTo l (j + 1 + 1) = shardsTo l (j + 1) ++ if s.shard = s'.shard then [] else [s.shard]) := by
          have : shardsTo l (j + 1 + 1) = shardsTo l (j + 1) ++ if s.shard = s'.shard then [] else [s.shard] := by
            rw [shardsTo, newAt, hgk, hgj]
            by_cases hq : s.shard = s'.shard <;> simp [hq]
          exact this
        clear hgk hgj h0
        have hj0 : (0 : Int) ≤ (j : Int) := Int.natCast_nonneg _
        have hj1 : (j : Int) < (l.length : Int) := by omega
        have hne0 : ((j : Int) + 1 == 0) = false := by simp; omega
        have hwj : IntKind.i64.wrap (j : Int) = (j : Int) := IntWalk.i64_in _ (by omega)
        by_cases hq : s.shard = s'.shard
        · have hq1 : (s.shard.toList == s'.shard.toList) = true := by rw [hq]; simp
          have HQ := Lib.hid hq
          clear hq
          go_quiet (fail)
          clear hwj
          go_wp2
          exact ⟨⟨j + 1 + 1, by omega, by go_num, by rw [HSH.out, if_pos HQ.out]; simp, below_drewN hbx _⟩, by simp [intOf]; omega⟩
        · have hq1 : (s.shard.toList == s'.shard.toList) = false := by
            simp only [beq_eq_false_iff_ne, ne_eq, ByteArray.toList_eq]; exact fun h => hq (bytes_ext h)
          have HQ := Lib.hid hq
          clear hq
          go_quiet (fail)
          clear hwj
          go_wp2
          exact ⟨⟨j + 1 + 1, by omega, by go_num, by rw [HSH.out, if_neg HQ.out]; simp, below_drewN hbx _⟩, by simp [intOf]; omega⟩
    · have hkl : k = l.length := by omega
      have HK := Lib.hid hkl
      clear hkl
      go_wp2
      go_ret
      exact ⟨ret_int (by unfold shardsOf; rw [← HK.out]), hb⟩
end Go.Proofs.YtacchooggifnhaaDoor
namespace Go.Proofs.YtacchooggifnhaaDoor
open Go.RowKit
/-- what a slice that the call owns looks like, and reads as -/
theorem own_form {w : World} {base e size n : Nat} {v : Value} {xs : List Value} (h : w.ownsRow base e size v n xs) (hn : 0 < n) : ∃ g cap, v = .slice (some ⟨g, 0, none⟩) n cap ∧ g < w.heap.size ∧ ∀ i x, xs[i]? = some x → w.cell? ⟨g, i, none⟩ = some x := by
  obtain ⟨a, cap, rfl, _, _, _, hc⟩ := Sl.ofOwn h
  obtain ⟨h1, h2⟩ := h
  rcases h2 with ⟨h0, rfl⟩ | ⟨g, cap', cur, hv, hb, hg, _⟩
  · omega
  · cases hv
    refine ⟨g, cap, rfl, (Array.getElem?_eq_some_iff.1 hg).1, fun i x hx => ?_⟩
    obtain ⟨b, o, hbo, hcell⟩ := hc i x hx
    cases hbo
    simpa using hcell
end Go.Proofs.YtacchooggifnhaaDoor
namespace Go.Proofs.YtacchooggifnhaaDoor
open Go.RowKit
/-- the first fault of events, behind another one -/
def scanFrom : Option Ev → List Ev → Int
  | _, [] => 0
  | p, e :: r => if checkE e ≠ 0 then checkE e else if (match p with | none => false | some q => decide (0 ≤ ordE q e)) = true then 8 else scanFrom (some e) r
def checkL (l : List Ev) : Int := if 20000 < l.length then 2 else if scanFrom none l ≠ 0 then scanFrom none l else if 50 < (shardsOf l).length then 2 else 0
theorem scan_step (p : Option Ev) {l : List Ev} {k : Nat} {s : Ev} (h : l[k]? = some s) : scanFrom p (l.drop k) = if checkE s ≠ 0 then checkE s else if (match p with | none => false | some q => decide (0 ≤ ordE q s)) = true then 8 else scanFrom (some s) (l.drop (k + 1)) := by
  obtain ⟨hk, rfl⟩ := List.getElem?_eq_some_iff.1 h
  rw [List.drop_eq_getElem_cons hk]; rfl
def prevE (l : List Ev) : Nat → Option Ev
  | 0 => none
  | k + 1 => l[k]?
/-- eight cells of an event -/
abbrev C8 (w' : World) (b o : Nat) (e : Ev) : Prop :=
  w'.cell? ⟨b, o, none⟩ = some (.string e.shard) ∧ w'.cell? ⟨b, o + 1, none⟩ = some (.int .i64 e.number) ∧ w'.cell? ⟨b, o + 2, none⟩ = some (.int .i64 e.kind) ∧ w'.cell? ⟨b, o + 3, none⟩ = some (.int .i64 e.time) ∧
    w'.cell? ⟨b, o + 4, none⟩ = some (.string e.key) ∧ w'.cell? ⟨b, o + 5, none⟩ = some (.string e.name) ∧ w'.cell? ⟨b, o + 6, none⟩ = some (.int .i64 e.arm) ∧ w'.cell? ⟨b, o + 7, none⟩ = some (.int .i64 e.n)
theorem C8.ext {w w' : World} {b o : Nat} {e : Ev} (hb : Below w.heap.size w w') (h : C8 w b o e) : C8 w' b o e :=
  ⟨cell_later hb h.1, cell_later hb h.2.1, cell_later hb h.2.2.1, cell_later hb h.2.2.2.1, cell_later hb h.2.2.2.2.1, cell_later hb h.2.2.2.2.2.1, cell_later hb h.2.2.2.2.2.2.1, cell_later hb h.2.2.2.2.2.2.2⟩
abbrev SE (W : World) (b1 : Nat) (A1 : Array Value) (b o : Nat) (e : Ev) (w' : World) : Prop :=
  Below W.heap.size W w' ∧ (∀ j, w'.cell? ⟨b1, j, none⟩ = A1[j]?) ∧ C8 w' b o e
theorem SE.start {W : World} {b1 : Nat} {A1 : Array Value} {b o : Nat} {e : Ev} (h1 : Box W b1 A1) (h2 : C8 W b o e) : SE W b1 A1 b o e W.drew := ⟨(Below.refl _ _).drew, h1.2, h2⟩
theorem SE.ext {W w1 w2 : World} {b1 : Nat} {A1 : Array Value} {b o : Nat} {e : Ev} (hb : Below w1.heap.size w1 w2) (h : SE W b1 A1 b o e w1) (h1 : Box W b1 A1) : SE W b1 A1 b o e w2 :=
  ⟨ext_trans h.1 hb, fun j => (hb.cell (p := ⟨b1, j, none⟩) (Nat.lt_of_lt_of_le h1.1 h.1.size)).trans (h.2.1 j), C8.ext hb h.2.2⟩

set_option maxHeartbeats 4000000 in
theorem event_CheckLog (l : List Ev) (hok : ∀ e ∈ l, e.ok) (a : Option Addr) (c : Nat) (w : World) (hs : Sl w (.slice a l.length c) l.length (l.flatMap evL)) :
    Calls Tryd.prog 11 #[.slice a l.length c] w fun e w' => e = .returned (.int .i64 (checkL l)) ∧ Below w.heap.size w w' := by
  have HOK := Lib.hid hok
  clear hok
  by_cases hl : 20000 < l.length
  · have hc : checkL l = 2 := by unfold checkL; rw [if_pos hl]
    rw [hc]
    clear hc
    go_enter Tryd.func11, Tryd.ntmps11
    go_wp2
    go_ret
    exact ⟨rfl, Below.refl _ _⟩
  have HC : Hid (checkL l = if scanFrom none l ≠ 0 then scanFrom none l else if 50 < (shardsOf l).length then 2 else 0) := by
    have : checkL l = if scanFrom none l ≠ 0 then scanFrom none l else if 50 < (shardsOf l).length then 2 else 0 := by unfold checkL; rw [if_neg hl]
    exact this
  go_enter Tryd.func11, Tryd.ntmps11
  go_wp2
  go_loopw [11] (fun i wr => ∃ k : Nat, k ≤ l.length ∧ i = .int .i64 k ∧ Hid (scanFrom none l = scanFrom (prevE l k) (l.drop k)) ∧ Below w.heap.size w wr) (fun i _ => l.length - (intOf i).toNat)
  case atStart => exact ⟨0, by omega, rfl, rfl, Below.refl _ _⟩
  case round =>
    obtain ⟨k, hk, rfl, HK, hb⟩ := hrel
    by_cases hlt : k < l.length
    · have hgk := List.getElem?_eq_getElem hlt
      have hsok : (l[k]).ok := HOK.out _ (List.getElem_mem _)
      generalize l[k] = s at hgk hsok
      obtain ⟨b, o, rfl, e0, e1, e2, e3, e4, e5, e6, e7⟩ := ev_cells (hs.ext hb) hgk
      have HST := Lib.hid (scan_step (prevE l k) hgk)
      have HP : Hid (prevE l (k + 1) = some s) := hgk
      clear hgk
      go_upto_region 6 with (fail)
      clear e0 e1 e2 e3 e4 e5 e6 e7
      refine wp_box1 fun X hszX hbX hX => ?_
      obtain ⟨_, hX2⟩ := id hX
      clear hszX
      go_wp2_with fail
      refine (event_Check s hsok _).mono ?_
      rintro e w2 ⟨rfl, hb2⟩
      have hbx := ext_trans (ext_trans hb hbX) hb2
      have hX3 := hX.ext hb2
      clear hX hX2 hbX hb2
      by_cases hc : checkE s = 0
      · have hne : (checkE s != 0) = false := by simp [hc]
        have HS2 : Hid (scanFrom none l = if (match prevE l k with | none => false | some q => decide (0 ≤ ordE q s)) = true then 8 else scanFrom (some s) (l.drop (k + 1))) := by
          have := HK.out; rw [HST.out, if_neg (by simp [hc])] at this; exact this
        clear hc
        by_cases h0 : k = 0
        · subst h0
          have HS3 : Hid (scanFrom none l = scanFrom (prevE l (0 + 1)) (l.drop (0 + 1))) := by have := HS2.out; simp only [prevE] at this; rw [HP.out]; exact (by simpa using this : scanFrom none l = scanFrom (some s) (l.drop (0 + 1)))
          go_wp2_with fail
          go_quiet (fail)
          go_wp2
          exact ⟨⟨0 + 1, by omega, rfl, HS3, below_drewN hbx _⟩, by simp [intOf]; omega⟩
        · obtain ⟨j, rfl⟩ : ∃ j, k = j + 1 := ⟨k - 1, by omega⟩
          have hgj := List.getElem?_eq_getElem (show j < l.length by omega)
          have HS3 : Hid (scanFrom none l = if decide (0 ≤ ordE l[j] s) = true then 8 else scanFrom (prevE l (j + 1 + 1)) (l.drop (j + 1 + 1))) := by
            have := HS2.out; rw [show prevE l (j + 1) = some l[j] from hgj] at this; rw [HP.out]; exact this
          generalize l[j] = s' at hgj HS3
          obtain ⟨b', o', hb', f0, f1, f2, f3, f4, f5, f6, f7⟩ := ev_cells (hs.ext hbx) hgj
          cases hb'
          clear hgj h0 HS2 HST
          have hj0 : (0 : Int) ≤ (j : Int) := Int.natCast_nonneg _
          have hj1 : (j : Int) < (l.length : Int) := by omega
          have hpos : decide ((0 : Int) < (j : Int) + 1) = true := decide_eq_true (by omega)
          have hwj : IntKind.i64.wrap (j : Int) = (j : Int) := IntWalk.i64_in _ (by omega)
          go_wp2_with fail
          go_region_held3 (SE w2 wr.heap.size (evC s) b (o + j * 8) s') (first | exact SE.start hX3 ⟨f0, f1, f2, f3, f4, f5, f6, f7⟩ | exact SE.ext (by with_reducible assumption) (by with_reducible assumption) hX3 | assumption) (first | (go_at_call 25; refine (event_order s' s _).mono ?_; rintro e w3 ⟨rfl, hb3⟩))
          have hb4 := ext_trans hbx.drew hb3
          clear hwj hpos f0 f1 f2 f3 f4 f5 f6 f7 hb3 hX3
          by_cases ho : 0 ≤ ordE s' s
          · have HF : Hid (checkL l = 8) := by
              have h1 := HS3.out
              rw [if_pos (decide_eq_true ho)] at h1
              have h2 := HC.out
              rw [h1, if_pos (by decide)] at h2; exact h2
            go_wp2
            go_ret
            exact ⟨ret_int HF.out.symm, hb4⟩
          · have HS4 : Hid (scanFrom none l = scanFrom (prevE l (j + 1 + 1)) (l.drop (j + 1 + 1))) := by
              have h1 := HS3.out
              rw [if_neg (by simp; omega)] at h1; exact h1
            go_wp2
            go_roundw
            case rel => exact ⟨j + 1 + 1, by omega, by go_num, HS4, hb4⟩
            case measure => simp [intOf]; omega
      · have hne : (checkE s != 0) = true := by simp [hc]
        have HF : Hid (checkL l = checkE s) := by
          have h1 := HK.out
          rw [HST.out, if_pos hc] at h1
          have h2 := HC.out
          rw [h1, if_pos hc] at h2; exact h2
        clear hc
        go_wp2
        go_ret
        exact ⟨ret_int HF.out.symm, hbx⟩
    · have hz : scanFrom none l = 0 := by
        have := HK.out
        rw [List.drop_eq_nil_of_le (by omega)] at this
        rw [this]; rfl
      have hsl := shardsTo_le l l.length
      by_cases h50 : 50 < (shardsOf l).length
      · have HF : Hid (checkL l = 2) := by have h2 := HC.out; rw [hz, if_neg (by simp), if_pos h50] at h2; exact h2
        clear hz
        go_wp2_with fail
        refine (event_shards l a c _ (hs.ext hb)).mono ?_
        rintro e w2 ⟨rfl, hb2⟩
        go_wp2
        go_ret
        exact ⟨ret_int HF.out.symm, ext_trans hb hb2⟩
      · have HF : Hid (checkL l = 0) := by have h2 := HC.out; rw [hz, if_neg (by simp), if_neg h50] at h2; exact h2
        clear hz
        go_wp2_with fail
        refine (event_shards l a c _ (hs.ext hb)).mono ?_
        rintro e w2 ⟨rfl, hb2⟩
        go_wp2
        go_ret
        exact ⟨ret_int HF.out.symm, ext_trans hb hb2⟩
end Go.Proofs.YtacchooggifnhaaDoor
namespace Go.Proofs.YtacchooggifnhaaDoor
open Go.RowKit
/-- the number that must come next -/
def nextAt (l : List Ev) : Nat → Int
  | 0 => 1
  | k + 1 => match l[k]?, l[k + 1]? with
    | some p, some e => if p.shard = e.shard then p.number + 1 else 1
    | _, _ => 1
theorem ite8 (b : Bool) (x : Int) (h : (if b = true then (8 : Int) else x) = 0) : x = 0 := by cases b <;> simp_all
theorem scan_ok : ∀ (p : Option Ev) (l : List Ev), scanFrom p l = 0 → ∀ e ∈ l, checkE e = 0
  | _, [], _, e, he => by cases he
  | p, x :: l, h, e, he => by
    simp only [scanFrom] at h
    by_cases hx : checkE x = 0
    · rw [if_neg (by simp [hx])] at h
      have h' := ite8 _ _ h
      rcases List.mem_cons.1 he with rfl | he
      · exact hx
      · exact scan_ok _ l h' e he
    · rw [if_pos hx] at h; omega
theorem check_ok {l : List Ev} (h : checkL l = 0) : (∀ e ∈ l, checkE e = 0) ∧ l.length ≤ 20000 ∧ scanFrom none l = 0 := by
  unfold checkL at h
  split at h
  · cases h
  · split at h
    · omega
    · have h0 : scanFrom none l = 0 := by omega
      exact ⟨scan_ok none l h0, by omega, h0⟩
theorem number_ok {e : Ev} (h : checkE e = 0) : 1 ≤ e.number ∧ e.number ≤ 1000000000000 ∧ 0 ≤ e.time ∧ e.time ≤ 4000000000 := by
  unfold checkE at h
  split at h
  · cases h
  split at h
  · cases h
  split at h
  · cases h
  split at h
  · cases h
  · simp_all [withinB]
end Go.Proofs.YtacchooggifnhaaDoor
