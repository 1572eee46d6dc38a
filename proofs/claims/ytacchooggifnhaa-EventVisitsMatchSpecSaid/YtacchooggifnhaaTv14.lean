/- Names: rule.XisName and the reference's IsName. Events: Check of package event and the reference's. Comparisons of Go's library: cmp.Compare at ints and strings, strings.Compare, cmp.Or at two ints. The reference's Check of events; the order of events. The order of events. The reference's shards. Maps of a call's own, as lists of pairs: any keys, any values. No program stands in it. Plain: the subjects of an experiment, and the keys that are mixed. No program stands in it. The order of events in the form that the sort asks: the world grown alone. -/
import Derived.Test.YtacchooggifnhaaTv00
import Derived.Test.YtacchooggifnhaaProg
import Derived.Deep.Cut
import Derived.Test.YtacchooggifnhaaTv01
import Derived.Lib.Bytealg
import Derived.Test.YtacchooggifnhaaTv02
import Derived.Maps.OwnSet
import Derived.Test.YtacchooggifnhaaTv03
import Derived.Shelf.SlSortCmp.KitK
namespace Go.Proofs.Ytacchooggifnhaa
open Go.RowKit
set_option maxHeartbeats 1000000 in
theorem ref_wordByte (c : Int) (w : World) : Calls Try.prog 81 #[.int .u8 c] w fun e w' => e = .returned (.bool (wordN c)) ∧ w = w' := by
  go_enter Try.func81, Try.ntmps81
  go_wp2
  all_goals go_ret
  all_goals exact ⟨ret_bool (by rw [Bool.eq_iff_iff]; first | (simp [wordN]; done) | (simp [wordN]; omega)), rfl⟩

def wordsB (l : List UInt8) : Bool := l.all wordC && !l.isEmpty
set_option maxHeartbeats 1000000 in
theorem ref_IsWord (s : ByteArray) (hs : s.size ≤ maxLen) (w : World) : Calls Try.prog 60 #[.string s] w fun e w' => e = .returned (.bool (wordsB s.data.toList)) ∧ w = w' := by
  unfold maxLen at hs
  go_enter Try.func60, Try.ntmps60
  go_wp2
  go_loop [6] (fun i => ∃ k : Nat, k ≤ s.size ∧ i = .int .i64 k ∧ Hid ((s.data.toList.take k).all wordC = true)) (fun i => s.size - (intOf i).toNat)
  case atStart => exact ⟨0, by omega, rfl, rfl⟩
  case round =>
    obtain ⟨k, hk, rfl, HA⟩ := hrel
    by_cases hlt : k < s.size
    · by_cases hw : wordC s[k] = true
      · have HW := Lib.hid hw
        have hn : wordN (s[k].toNat : Int) = true := hw
        clear hw
        go_wp2_with (go_at_call 81; refine (ref_wordByte _ _).mono ?_; rintro e w' ⟨rfl, rfl⟩)
        go_round
        case rel => exact ⟨k + 1, by omega, by go_num, all_snoc _ _ _ hlt HA.out HW.out⟩
        case measure => simp [intOf]; omega
      · have hw' : wordC s[k] = false := by simpa using hw
        have HW := Lib.hid (all_not _ _ _ hlt hw')
        have hn : wordN (s[k].toNat : Int) = false := hw'
        clear hw hw'
        go_wp2_with (go_at_call 81; refine (ref_wordByte _ _).mono ?_; rintro e w' ⟨rfl, rfl⟩)
        go_ret
        exact ⟨ret_bool (by unfold wordsB; rw [HW.out]; rfl), rfl⟩
    · have HW := Lib.hid (all_end _ _ _ hlt HA.out)
      go_wp2
      go_ret
      exact ⟨ret_bool (by unfold wordsB; rw [HW.out, ByteArray.toList_eq]; simp), rfl⟩

set_option maxHeartbeats 1000000 in
theorem ref_IsName (s : ByteArray) (hs : s.size ≤ maxLen) (w : World) : Calls Try.prog 35 #[.string s] w fun e w' => e = .returned (.bool (nameB s.data.toList)) ∧ w = w' := by
  have hs' := hs
  unfold maxLen at hs'
  by_cases h0 : 0 < s.size
  · have hlet := letterAt_of s h0
    have hw1 : wordsB s.data.toList = s.data.toList.all wordC := by
      unfold wordsB; rw [show s.data.toList.isEmpty = false by
        cases hq : s.data.toList with
        | nil => have hl : s.data.toList.length = s.size := Array.length_toList
                 rw [hq] at hl; simp at hl; omega
        | cons _ _ => rfl]; simp
    have hnb : nameB s.data.toList = (decide (s.size ≤ 40) && letterAt s.data.toList && s.data.toList.all wordC) := by
      unfold nameB
      rw [show decide (1 ≤ s.data.toList.length ∧ s.data.toList.length ≤ 40) = decide (s.size ≤ 40) by rw [decide_eq_decide]; simp; omega]
    generalize hW : s.data.toList.all wordC = W at *
    have HN := Lib.hid hnb
    have HL := Lib.hid hlet
    have HW := Lib.hid hw1
    clear hnb hlet hw1 hW
    generalize nameB s.data.toList = N at *
    generalize letterAt s.data.toList = L at *
    go_enter Try.func35, Try.ntmps35
    go_wp2_with fail
    refine (ref_IsWord s hs _).mono ?_
    rintro e w' ⟨rfl, rfl⟩
    rw [HW.out]
    go_wp2
    all_goals go_ret
    all_goals exact ⟨ret_bool (by rw [HN.out, HL.out, Bool.eq_iff_iff]; first | (simp [*]; done) | (simp [*]; omega)), rfl⟩
  · have hz : s.size = 0 := by omega
    have hnil : s.data.toList = [] := List.length_eq_zero_iff.1 (by simpa using hz)
    have hnb : nameB s.data.toList = false := by rw [hnil]; rfl
    have hw1 : wordsB s.data.toList = false := by rw [hnil]; rfl
    rw [hnb]
    have HW := Lib.hid hw1
    clear hnb hnil hz hw1
    go_enter Try.func35, Try.ntmps35
    go_wp2_with fail
    refine (ref_IsWord s hs _).mono ?_
    rintro e w' ⟨rfl, rfl⟩
    rw [HW.out]
    go_wp2
    go_ret
    exact ⟨rfl, rfl⟩

end Go.Proofs.Ytacchooggifnhaa
namespace Go.Proofs.Ytacchooggifnhaa
open Go.RowKit
def seenB (l : List UInt8) : Bool := l.all seenC && !l.isEmpty

theorem seenB_false {l : List UInt8} (h : l.all seenC = false) : seenB l = false := by unfold seenB; rw [h]; rfl
theorem keyB_seen (s : ByteArray) : keyB s.data.toList = (seenB s.data.toList && decide ((s.size : Int) ≤ 100)) := by
  have hl : s.data.toList.length = s.size := Array.length_toList
  unfold keyB seenB
  cases hq : s.data.toList with
  | nil => simp
  | cons c r =>
    rw [hq] at hl
    rw [show decide (1 ≤ (c :: r).length ∧ (c :: r).length ≤ 100) = decide ((s.size : Int) ≤ 100) by rw [decide_eq_decide, hl]; simp at hl; omega]
    simp

set_option maxHeartbeats 2000000 in
theorem ref_Seen (s : ByteArray) (hs : s.size ≤ maxLen) (w : World) : Calls Try.prog 59 #[.string s] w fun e w' => e = .returned (.bool (seenB s.data.toList)) ∧ w = w' := by
  unfold maxLen at hs
  go_enter Try.func59, Try.ntmps59
  go_wp2
  go_loop [6] (fun i => ∃ k : Nat, k ≤ s.size ∧ i = .int .i64 k ∧ Hid ((s.data.toList.take k).all seenC = true)) (fun i => s.size - (intOf i).toNat)
  case atStart => exact ⟨0, by omega, rfl, rfl⟩
  case round =>
    obtain ⟨k, hk, rfl, HA⟩ := hrel
    by_cases hlt : k < s.size
    · by_cases h1 : 33 ≤ (s[k].toNat : Int)
      · by_cases h2 : (s[k].toNat : Int) ≤ 126
        · have HW : Hid (seenC s[k] = true) := by exact (by unfold seenC; simp; omega : seenC s[k] = true)
          go_wp2
          go_round
          case rel => exact ⟨k + 1, by omega, by go_num, all_snoc _ _ _ hlt HA.out HW.out⟩
          case measure => simp [intOf]; omega
        · have HW : Hid (seenB s.data.toList = false) := seenB_false (all_not _ _ _ hlt (by unfold seenC; simp; omega))
          go_wp2
          go_ret
          exact ⟨ret_bool HW.out.symm, rfl⟩
      · have HW : Hid (seenB s.data.toList = false) := seenB_false (all_not _ _ _ hlt (by unfold seenC; simp; omega))
        go_wp2
        go_ret
        exact ⟨ret_bool HW.out.symm, rfl⟩
    · have HW := Lib.hid (all_end _ _ _ hlt HA.out)
      go_wp2
      go_ret
      exact ⟨ret_bool (by unfold seenB; rw [HW.out, ByteArray.toList_eq]; simp), rfl⟩

set_option maxHeartbeats 2000000 in
theorem ref_IsKey (s : ByteArray) (hs : s.size ≤ maxLen) (w : World) : Calls Try.prog 34 #[.string s] w fun e w' => e = .returned (.bool (keyB s.data.toList)) ∧ w = w' := by
  have HK := Lib.hid (keyB_seen s)
  go_enter Try.func34, Try.ntmps34
  go_wp2_with (go_at_call 59; refine (ref_Seen s hs _).mono ?_; rintro e w' ⟨rfl, rfl⟩)
  all_goals go_ret
  all_goals exact ⟨ret_bool (by rw [HK.out]; simp_all), rfl⟩
theorem ref_IsTime (n : Int) (w : World) : Calls Try.prog 80 #[.int .i64 n] w fun e w' => e = .returned (.bool (withinB n 0 4000000000)) ∧ w = w' := by
  go_enter Try.func80, Try.ntmps80
  go_wp2
  all_goals go_ret
  all_goals exact ⟨ret_bool (by rw [Bool.eq_iff_iff]; first | (simp [withinB]; done) | (simp [withinB]; omega)), rfl⟩

end Go.Proofs.Ytacchooggifnhaa
namespace Go.Proofs.Ytacchooggifnhaa
open Go.RowKit

theorem cmpI_anti (a b : Int) : cmpI b a = - cmpI a b := by unfold cmpI; split <;> split <;> simp_all <;> omega
theorem cmpI_trans {a b c : Int} (h : cmpI a b ≤ 0) (k : cmpI b c ≤ 0) : cmpI a c ≤ 0 := by
  unfold cmpI at *
  by_cases h1 : a < b <;> by_cases h2 : b < a <;> by_cases k1 : b < c <;> by_cases k2 : c < b <;> by_cases l1 : a < c <;> by_cases l2 : c < a <;> simp_all <;> omega

end Go.Proofs.Ytacchooggifnhaa
namespace Go.Proofs.Ytacchooggifnhaa
open Go.RowKit
set_option maxHeartbeats 8000000 in
set_option maxRecDepth 100000 in
theorem ref7_Check (e : Ev) (he : e.ok) (w : World) : Calls Try.prog 56 #[.agg (evC e)] w fun r w' => r = .returned (.int .i64 (checkE e)) ∧ Below w.heap.size w w' := by
  obtain ⟨h1, h2, h3⟩ := he
  go_enter Try.func56, Try.ntmps56
  go_wp2_with (first | (go_at_call 35; refine (ref_IsName _ (by assumption) _).mono ?_; rintro e w' ⟨rfl, rfl⟩) | (go_at_call 34; refine (ref_IsKey _ (by assumption) _).mono ?_; rintro e w' ⟨rfl, rfl⟩) | (go_at_call 80; refine (ref_IsTime _ _).mono ?_; rintro e w' ⟨rfl, rfl⟩))
  all_goals go_ret
  all_goals refine ⟨ret_int ?_, by go_grown⟩
  all_goals first | (simp_all [checkE]; done) | (simp_all [checkE, withinB]; done) | (simp_all [checkE, withinB]; omega) | (unfold checkE withinB at *; (repeat' split) <;> simp_all <;> omega)
end Go.Proofs.Ytacchooggifnhaa
namespace Go.Proofs.Ytacchooggifnhaa
open Go.RowKit
theorem ord_neg (a b : Ev) : (ordE a b < 0) ↔ (cmpS a.shard b.shard = -1 ∨ cmpS a.shard b.shard = 0 ∧ a.number < b.number) := by
  have h1 := cmpS_tri a.shard b.shard
  have h2 : cmpI a.number b.number < 0 ↔ a.number < b.number := by
    unfold cmpI
    by_cases k1 : a.number < b.number
    · simp [k1]
    · by_cases k2 : b.number < a.number <;> simp [k1, k2]
  unfold ordE orI
  split <;> omega

theorem less_of (a b : ByteArray) : Op.bytesLess a.toList b.toList = decide (cmpS a b = -1) := by
  rw [ByteArray.toList_eq, ByteArray.toList_eq, less_iff, decide_eq_decide]
  have := cmpS_tri a b
  unfold cmpS at *
  omega
theorem beq_of (a b : ByteArray) : (a.toList == b.toList) = decide (cmpS a b = 0) := by
  rw [ByteArray.toList_eq, ByteArray.toList_eq, Bool.eq_iff_iff]
  simp only [beq_iff_eq, decide_eq_true_eq]
  exact ⟨fun h => by unfold cmpS; rw [h]; exact compare_self _, fun h => compare_zero h⟩
set_option maxHeartbeats 2000000 in
theorem ref7_ahead (a b : Ev) (w : World) : Calls Try.prog 57 #[.agg (evC a), .agg (evC b)] w fun e w' => e = .returned (.bool (decide (ordE a b < 0))) ∧ Below w.heap.size w w' := by
  have hO := ord_neg a b
  have h3 := cmpS_tri a.shard b.shard
  have h1 := less_of a.shard b.shard
  have h2 := beq_of a.shard b.shard
  rcases h3 with h3 | h3 | h3
  · rw [h3] at h1 h2 hO
    rw [show decide (ordE a b < 0) = true by simp [hO]]
    simp only [decide_true] at h1
    clear hO h3 h2
    go_enter Try.func57, Try.ntmps57
    go_wp2
    go_ret
    exact ⟨rfl, by go_grown⟩
  · rw [h3] at h1 h2 hO
    rw [show decide (ordE a b < 0) = decide (a.number < b.number) by rw [decide_eq_decide, hO]; simp]
    have h1' : Op.bytesLess a.shard.toList b.shard.toList = false := by rw [h1]; rfl
    have h2' : (a.shard.toList == b.shard.toList) = true := by rw [h2]; rfl
    clear hO h3 h1 h2
    go_enter Try.func57, Try.ntmps57
    go_wp2
    go_ret
    exact ⟨rfl, by go_grown⟩
  · rw [h3] at h1 h2 hO
    rw [show decide (ordE a b < 0) = false by simp; have := hO; omega]
    have h1' : Op.bytesLess a.shard.toList b.shard.toList = false := by rw [h1]; rfl
    have h2' : (a.shard.toList == b.shard.toList) = false := by rw [h2]; rfl
    clear hO h3 h1 h2
    go_enter Try.func57, Try.ntmps57
    go_wp2
    go_ret
    exact ⟨rfl, by go_grown⟩
end Go.Proofs.Ytacchooggifnhaa
namespace Go.Proofs.Ytacchooggifnhaa
open Go.RowKit
theorem string_info : (Try.prog.info? 9).map (fun i => (i.zero, i.size, i.bytes)) = some (some (.string { data := #[] }), 1, 16) := by kernel_rfl
theorem shards_last (l : List Ev) : ∀ k, k < l.length → (shardsTo l (k + 1)).getLast? = (l[k]?).map Ev.shard
  | 0, h => by simp [shardsTo, newAt, List.getElem?_eq_getElem h]
  | k + 1, h => by
    have ih := shards_last l k (by omega)
    rw [shardsTo]
    have h1 := List.getElem?_eq_getElem h
    have h2 := List.getElem?_eq_getElem (show k < l.length by omega)
    simp only [newAt, h1, h2, Option.map_some] at *
    by_cases hq : l[k + 1].shard = l[k].shard
    · simp [hq, ih]
    · simp [hq]
theorem shards_pos (l : List Ev) (k : Nat) (h : k < l.length) : 0 < (shardsTo l (k + 1)).length := by
  have := shards_last l k h
  rw [List.getElem?_eq_getElem h] at this
  cases hq : shardsTo l (k + 1) with
  | nil => rw [hq] at this; simp at this
  | cons _ _ => simp
def ShardsPost (l : List Ev) (w : World) (e : Ending) (w' : World) : Prop :=
  ∃ a cap, e = .returned (.slice a (shardsOf l).length cap) ∧ Sl w' (.slice a (shardsOf l).length cap) (shardsOf l).length ((shardsOf l).map Value.string) ∧ Below w.heap.size w w'
set_option maxHeartbeats 4000000 in
theorem ref7_shards (l : List Ev) (hl2 : l.length ≤ 20000) (a : Option Addr) (c : Nat) (w : World) (hs : Sl w (.slice a l.length c) l.length (l.flatMap evL)) :
    Calls Try.prog 58 #[.slice a l.length c] w (ShardsPost l w) := by
  have HI := Lib.hid string_info
  go_enter Try.func58, Try.ntmps58
  go_wp2
  go_loopw [3, 9] (fun v i wr => ∃ k n : Nat, k ≤ l.length ∧ n ≤ k ∧ i = .int .i64 k ∧ wr.ownsRow w.heap.size 9 1 v n ((shardsTo l k).map Value.string) ∧ Hid ((shardsTo l k).length = n) ∧ Below w.heap.size w wr) (fun _ i _ => l.length - (intOf i).toNat)
  case atStart => exact ⟨0, 0, by omega, by omega, rfl, World.ownsRow_nil _ _ _ _, rfl, Below.refl _ _⟩
  case round =>
    obtain ⟨k, n, hk, hnk, rfl, hown, HN, hb⟩ := hrel
    by_cases hlt : k < l.length
    · have hgk := List.getElem?_eq_getElem hlt
      generalize l[k] = s at hgk
      obtain ⟨b, o, rfl, e0, e1, e2, e3, e4, e5, e6, e7⟩ := ev_cells (hs.ext hb) hgk
      have hsz := hb.size
      have HK1 : Hid (shardsTo l (k + 1) = shardsTo l k ++ if newAt l k then [s.shard] else []) := by
        have : shardsTo l (k + 1) = shardsTo l k ++ if newAt l k then [s.shard] else [] := by rw [shardsTo, hgk]; rfl
        exact this
      have hb0 : ∀ q, u3.ownBlock = some q → w.heap.size ≤ q := fun q hq => (hown.lt q hq).1
      have HB0 := Lib.hid hb0
      clear hb0
      go_upto_region 5 with (fail)
      clear e0 e1 e2 e3 e4 e5 e6 e7
      refine wp_box1 fun X hszX hbX hX => ?_
      have hbx := ext_trans hb hbX
      have hownX := ownsRow_ext hown hbX
      have hszx := hbx.size
      clear hszX hown hb hbX hsz
      have g0 := hX.2 0
      by_cases h0 : k = 0
      · subst h0
        obtain rfl : n = 0 := by omega
        obtain ⟨a3, c3, rfl, _⟩ := Sl.ofOwn hownX
        have HN2 : Hid (shardsTo l 1 = shardsTo l 0 ++ [s.shard]) := by have := HK1.out; simp [newAt] at this; exact this
        go_wp2_with fail
        go_quiet (fail)
        have g1 := (Box.ext hX (below_drewN (Below.refl _ _) nq)).2 0
        go_wp2_with (at_builtin; refine wpList_append_sl rfl _ _ 28 rfl w.heap.size 9 Try.underlying28 HI.out rfl (by decide) rfl (ownsRow_ext (ownsRow_ext hownX (below_drewN (Below.refl _ _) nq)) (ext_alloc _ _)) rfl (Sl.new _ #[.string s.shard] _ 1 1 (by omega) (by decide)) rfl (by intro u hu; simp at hu; subst hu; rfl) (by unfold maxLen; omega) (by omega) (by simp; omega) ?_; intro v7 w7 hown7 hg7 _)
        have hown8 : w7.ownsRow w.heap.size 9 1 v7 (0 + 1) ((shardsTo l (0 + 1)).map Value.string) := by rw [HN2.out, List.map_append]; exact hown7
        have hb8 : Below w.heap.size w w7 := (ext_trans (ext_trans hbx (below_drewN (Below.refl _ _) nq)) (ext_alloc _ _)).grown hg7 (by simp; omega) (fun q hq => HB0.out q hq)
        have HN3 : Hid ((shardsTo l (0 + 1)).length = 0 + 1) := by
          have h1 := HN.out
          exact (by rw [HN2.out, List.length_append, h1]; rfl : (shardsTo l (0 + 1)).length = 0 + 1)
        clear hown7 hg7 g1
        go_wp2
        go_roundw
        case rel => exact ⟨0 + 1, 0 + 1, by omega, by omega, by go_num, hown8, HN3, hb8⟩
        case measure => simp [intOf]; omega
      · obtain ⟨j, rfl⟩ : ∃ j, k = j + 1 := ⟨k - 1, by omega⟩
        have hgj := List.getElem?_eq_getElem (show j < l.length by omega)
        have hpos := shards_pos l j (by omega)
        have hlast := shards_last l j (by omega)
        have hnew : newAt l (j + 1) = decide (s.shard ≠ l[j].shard) := by rw [newAt, hgk, hgj]; simp
        rw [hgj] at hlast
        generalize l[j] = s' at hlast hgj hnew
        rw [HN.out] at hpos
        obtain ⟨g, c3, rfl, hg, hcl⟩ := own_form hownX hpos
        obtain ⟨m, rfl⟩ : ∃ m, n = m + 1 := ⟨n - 1, by omega⟩
        have hcm : X.cell? ⟨g, m, none⟩ = some (.string s'.shard) := by
          refine hcl m _ ?_
          rw [List.getLast?_eq_getElem?, HN.out] at hlast
          rw [List.getElem?_map, show m = m + 1 - 1 by omega, hlast]; rfl
        have hm0 : (0 : Int) ≤ (m : Int) := Int.natCast_nonneg _
        have hne0 : ((m : Int) + 1 == 0) = false := by simp; omega
        have hwm : IntKind.i64.wrap (m : Int) = (m : Int) := IntWalk.i64_in _ (by omega)
        have hm1 : (m : Int) < (m : Int) + 1 := by omega
        clear hgk hgj hlast hcl hpos
        by_cases hq : s.shard = s'.shard
        · have hq1 : (s'.shard.toList == s.shard.toList) = true := by rw [hq]; simp
          have HN2 : Hid (shardsTo l (j + 1 + 1) = shardsTo l (j + 1)) := by have := HK1.out; rw [hnew] at this; simp [hq] at this; exact this
          clear hq hnew
          go_wp2_with fail
          go_quiet (fail)
          clear hwm
          have hownY : (X.drewN nq).ownsRow w.heap.size 9 1 (.slice (some ⟨g, 0, none⟩) (m + 1) c3) (m + 1) ((shardsTo l (j + 1 + 1)).map Value.string) := by rw [HN2.out]; exact ownsRow_ext hownX (below_drewN (Below.refl _ _) nq)
          have HN3 : Hid ((shardsTo l (j + 1 + 1)).length = m + 1) := by rw [HN2.out]; exact HN
          have hb8 := ext_trans hbx (below_drewN (Below.refl _ _) nq)
          go_wp2
          go_roundw
          case rel => exact ⟨j + 1 + 1, m + 1, by omega, by omega, by go_num, hownY, HN3, hb8⟩
          case measure => simp [intOf]; omega
        · have hq1 : (s'.shard.toList == s.shard.toList) = false := by
            simp only [beq_eq_false_iff_ne, ne_eq, ByteArray.toList_eq]; exact fun h => hq (bytes_ext h).symm
          have HN2 : Hid (shardsTo l (j + 1 + 1) = shardsTo l (j + 1) ++ [s.shard]) := by have := HK1.out; rw [hnew] at this; simp [hq] at this; exact this
          clear hq hnew
          go_wp2_with fail
          go_quiet (fail)
          clear hwm
          have g1 := (Box.ext hX (below_drewN (Below.refl _ _) nq)).2 0
          go_wp2_with (at_builtin; refine wpList_append_sl rfl _ _ 28 rfl w.heap.size 9 Try.underlying28 HI.out rfl (by decide) rfl (ownsRow_ext (ownsRow_ext hownX (below_drewN (Below.refl _ _) nq)) (ext_alloc _ _)) rfl (Sl.new _ #[.string s.shard] _ 1 1 (by omega) (by decide)) rfl (by intro u hu; simp at hu; subst hu; rfl) (by unfold maxLen; omega) (by omega) (by simp; omega) ?_; intro v7 w7 hown7 hg7 _)
          have hown8 : w7.ownsRow w.heap.size 9 1 v7 (m + 1 + 1) ((shardsTo l (j + 1 + 1)).map Value.string) := by rw [HN2.out, List.map_append]; exact hown7
          have hb8 : Below w.heap.size w w7 := (ext_trans (ext_trans hbx (below_drewN (Below.refl _ _) nq)) (ext_alloc _ _)).grown hg7 (by simp; omega) (fun q hq => HB0.out q hq)
          have HN3 : Hid ((shardsTo l (j + 1 + 1)).length = m + 1 + 1) := by
            have h1 := HN.out
            exact (by rw [HN2.out, List.length_append, h1]; rfl : (shardsTo l (j + 1 + 1)).length = m + 1 + 1)
          clear hown7 hg7 g1
          go_wp2
          go_roundw
          case rel => exact ⟨j + 1 + 1, m + 1 + 1, by omega, by omega, by go_num, hown8, HN3, hb8⟩
          case measure => simp [intOf]; omega
    · have hkl : k = l.length := by omega
      have HK := Lib.hid hkl
      clear hkl
      obtain ⟨a3, c3, rfl, _⟩ := Sl.ofOwn hown
      go_wp2
      go_ret
      refine ⟨a3, c3, ?_, ?_, hb⟩
      · unfold shardsOf; rw [← HK.out, HN.out]; rfl
      · unfold shardsOf; rw [← HK.out, HN.out]; exact Sl.ofOwn hown
end Go.Proofs.Ytacchooggifnhaa
namespace Go.Proofs.Ytacchooggifnhaa
open Go.RowKit
variable {α β : Type}
/-- a row of the call's own beside a map that turns -/
theorem ownsRow_turned {w w' : World} {b base e size n : Nat} {v : Value} {xs : List Value} (h : w.ownsRow base e size v n xs) (ht : w.mapTurned w' b) : w'.ownsRow base e size v n xs := by
  obtain ⟨h1, h2⟩ := h
  refine ⟨h1, ?_⟩
  rcases h2 with h2 | ⟨g, cap, cur, hv, hbg, hg, h3⟩
  · exact .inl h2
  · refine .inr ⟨g, cap, cur, hv, hbg, ?_, h3⟩
    obtain ⟨es, clock, es', clock', k1, rfl⟩ := ht
    simp only [ChangeMaps.setBlock, Array.getElem?_setIfInBounds]
    rw [if_neg (fun e => by subst e; rw [hg] at k1; cases k1)]; exact hg
end Go.Proofs.Ytacchooggifnhaa
namespace Go.Proofs.Ytacchooggifnhaa
namespace Ex
theorem look_some_mem {α β : Type} [DecidableEq α] : ∀ {l : List (α × β)} {x : α} {y : β}, look l x = some y → (x, y) ∈ l
  | [], x, y, h => by simp [look] at h
  | p :: l, x, y, h => by
    by_cases hx : x = p.1
    · have : look (p :: l) x = some p.2 := by simp [look, hx]
      rw [this] at h
      injection h with h
      subst hx; subst h
      exact List.mem_cons_self
    · have : look (p :: l) x = look l x := by simp [look, hx]
      rw [this] at h
      exact List.mem_cons_of_mem _ (look_some_mem h)
theorem look_none_keys {α β : Type} [DecidableEq α] : ∀ {l : List (α × β)} {x : α}, look l x = none ↔ x ∉ l.map (·.1)
  | [], x => by simp [look]
  | p :: l, x => by
    by_cases hx : x = p.1
    · have : look (p :: l) x = some p.2 := by simp [look, hx]
      rw [this]
      simp [hx]
    · have : look (p :: l) x = look l x := by simp [look, hx]
      rw [this, look_none_keys (l := l)]
      simp [hx]
theorem look_mem {α β : Type} [DecidableEq α] : ∀ {l : List (α × β)}, (l.map (·.1)).Nodup → ∀ {p : α × β}, p ∈ l → look l p.1 = some p.2
  | [], _, p, h => by cases h
  | q :: l, hn, p, h => by
    rw [List.map_cons, List.nodup_cons] at hn
    rcases List.mem_cons.1 h with rfl | h
    · simp [look]
    · have hne : ¬ p.1 = q.1 := fun e => hn.1 (by rw [← e]; exact List.mem_map.2 ⟨p, h, rfl⟩)
      have : look (q :: l) p.1 = look l p.1 := by simp [look, hne]
      rw [this]; exact look_mem hn.2 h
/-- a key's first exposure -/
def firstOf (F : Fst) (k : ByteArray) : Ev := (look F k).getD ⟨⟨#[]⟩, 0, 0, 0, ⟨#[]⟩, ⟨#[]⟩, 0, 0⟩
def subjK (F : Fst) (k : ByteArray) : Sbj := subjOf (k, firstOf F k)
theorem expR_ref {F : Fst} {M : Mix} {ks : List ByteArray} (hF : (F.map (·.1)).Nodup) (hp : ks.Perm (keysOf F)) (hs : ks.Pairwise (fun a b => ¬ cmpS b a < 0)) :
    ExpR F M ((ks.filter (fun k => !mixB M k)).map (subjK F)) (ks.filter (fun k => mixB M k)) := by
  have ha : AscB ks := asc_of_sorted (f := id) hp hs (by rw [List.map_id]; exact hF)
  refine ⟨?_, fun s => ?_, ha.filter _, fun k => ?_⟩
  · unfold AscK
    rw [List.pairwise_map]
    exact (ha.filter _).imp (fun h => h)
  · rw [List.mem_map]
    constructor
    · rintro ⟨k, hk, rfl⟩
      obtain ⟨h1, h2⟩ := List.mem_filter.1 hk
      obtain ⟨p, h3, rfl⟩ := List.mem_map.1 (hp.mem_iff.1 h1)
      refine ⟨p, h3, by simpa using h2, ?_⟩
      unfold subjK firstOf
      rw [look_mem hF h3]; rfl
    · rintro ⟨p, h1, h2, rfl⟩
      refine ⟨p.1, List.mem_filter.2 ⟨hp.mem_iff.2 (List.mem_map.2 ⟨p, h1, rfl⟩), by simp [h2]⟩, ?_⟩
      unfold subjK firstOf
      rw [look_mem hF h1]; rfl
  · rw [List.mem_filter, hp.mem_iff]
end Ex
end Go.Proofs.Ytacchooggifnhaa
namespace Go.Proofs.Ytacchooggifnhaa
open Go.RowKit Go.Sort
theorem ordE_anti (a b : Ev) : ordE b a = - ordE a b := by
  unfold ordE orI; rw [cmpS_anti a.shard b.shard, cmpI_anti a.number b.number]
  by_cases h : cmpS a.shard b.shard = 0
  · simp [h]
  · rw [if_neg (by omega), if_neg h]
theorem ordE_trans {a b c : Ev} (h : ordE a b ≤ 0) (k : ordE b c ≤ 0) : ordE a c ≤ 0 := by
  unfold ordE orI at *
  by_cases h1 : cmpS a.shard b.shard = 0
  · have e := cmpS_zero h1
    simp only [h1, if_true] at h
    rw [e]
    by_cases h2 : cmpS b.shard c.shard = 0
    · simp only [h2, if_true] at k ⊢; exact cmpI_trans h k
    · simp only [h2, if_false] at k ⊢; exact k
  · simp only [h1, if_false] at h
    by_cases h2 : cmpS b.shard c.shard = 0
    · have e := cmpS_zero h2
      rw [← e]; simp only [h1, if_false]; exact h
    · simp only [h2, if_false] at k
      have h3 := cmpS_trans h k
      by_cases h4 : cmpS a.shard c.shard = 0
      · have e := cmpS_zero h4
        rw [← e, cmpS_anti a.shard b.shard] at k; omega
      · rw [if_neg h4]; exact h3
theorem ordE_lt_trans {a b c : Ev} (h : ordE a b < 0) (k : ordE b c < 0) : ordE a c < 0 := by
  have h1 : ordE a c ≤ 0 := @ordE_trans a b c (by omega) (by omega)
  rcases Int.lt_or_eq_of_le h1 with h2 | h2
  · exact h2
  · have h3 : ordE c a = 0 := by rw [ordE_anti, h2]; rfl
    have h4 : ordE c b ≤ 0 := @ordE_trans c a b (by omega) (by omega)
    rw [ordE_anti] at h4; omega
end Go.Proofs.Ytacchooggifnhaa
