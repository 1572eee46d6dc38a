/- How many shards a log has: event.shards and the reference's shards. -/
import Derived.Test.YtbbfdkjamjmbmaaDoorEvent3
import Derived.Deep.QuietTactic
import Derived.BigQuiet
namespace Go.Proofs.YtbbfdkjamjmbmaaDoor
open Go.RowKit
def evL (e : Ev) : List Value := (evC e).toList
theorem evL_len (e : Ev) : (evL e).length = 8 := rfl
def newAt (l : List Ev) : Nat → Bool
  | 0 => true
  | k + 1 => decide ((l[k + 1]?).map Ev.shard ≠ (l[k]?).map Ev.shard)
def shardsTo (l : List Ev) : Nat → List ByteArray
  | 0 => []
  | k + 1 => shardsTo l k ++ (if newAt l k then ((l[k]?).map Ev.shard).toList else [])
def shardsOf (l : List Ev) : List ByteArray := shardsTo l l.length
theorem shardsTo_le (l : List Ev) : ∀ k, (shardsTo l k).length ≤ k
  | 0 => Nat.le_refl _
  | k + 1 => by
    have := shardsTo_le l k
    simp only [shardsTo, List.length_append]
    split
    · cases l[k]? <;> simp <;> omega
    · simp; omega
/-- the eight cells of an event -/
theorem ev_cells {w : World} {a : Option Addr} {n c k : Nat} {l : List Ev} {e : Ev} (s : Sl w (.slice a n c) n (l.flatMap evL)) (h : l[k]? = some e) :
    ∃ b o, a = some ⟨b, o, none⟩ ∧ w.cell? ⟨b, o + k * 8, none⟩ = some (.string e.shard) ∧ w.cell? ⟨b, o + k * 8 + 1, none⟩ = some (.int .i64 e.number) ∧ w.cell? ⟨b, o + k * 8 + 2, none⟩ = some (.int .i64 e.kind) ∧ w.cell? ⟨b, o + k * 8 + 3, none⟩ = some (.int .i64 e.time) ∧
      w.cell? ⟨b, o + k * 8 + 4, none⟩ = some (.string e.key) ∧ w.cell? ⟨b, o + k * 8 + 5, none⟩ = some (.string e.name) ∧ w.cell? ⟨b, o + k * 8 + 6, none⟩ = some (.int .i64 e.arm) ∧ w.cell? ⟨b, o + k * 8 + 7, none⟩ = some (.int .i64 e.n) := by
  obtain ⟨b, o, ha, hc⟩ := s.elem evL_len (by omega) h
  exact ⟨b, o, ha, hc 0 _ rfl, hc 1 _ rfl, hc 2 _ rfl, hc 3 _ rfl, hc 4 _ rfl, hc 5 _ rfl, hc 6 _ rfl, hc 7 _ rfl⟩
theorem Sl.len_le {w : World} {a : Option Addr} {n c : Nat} {cs : List Value} (s : Sl w (.slice a n c) n cs) : n ≤ 9223372036854775807 := by
  obtain ⟨_, _, hv, h1, h2, _⟩ := s; cases hv; unfold maxLen at h2; omega

set_option maxHeartbeats 4000000 in
theorem event_shards (l : List Ev) (a : Option Addr) (c : Nat) (w : World) (hs : Sl w (.slice a l.length c) l.length (l.flatMap evL)) :
    Calls Tryd.prog 15 #[.slice a l.length c] w fun e w' => e = .returned (.int .i64 (shardsOf l).length) ∧ Below w.heap.size w w' := by
  have hl := hs.len_le
  go_enter Tryd.func15, Tryd.ntmps15
  go_wp2
  go_loopw [3, 8] (fun t i wr => ∃ k : Nat, k ≤ l.length ∧ i = .int .i64 k ∧ t = .int .i64 (shardsTo l k).length ∧ Below w.heap.size w wr) (fun _ i _ => l.length - (intOf i).toNat)
  case atStart => exact ⟨0, by omega, rfl, rfl, Below.refl _ _⟩
  case round =>
    obtain ⟨k, hk, rfl, rfl, hb⟩ := hrel
    have hle := shardsTo_le l k
    by_cases hlt : k < l.length
    · have hgk := List.getElem?_eq_getElem hlt
      generalize l[k] = s at hgk
      obtain ⟨b, o, rfl, e0, e1, e2, e3, e4, e5, e6, e7⟩ := ev_cells (hs.ext hb) hgk
      go_upto_region 5 with (fail)
      clear e0 e1 e2 e3 e4 e5 e6 e7
      refine wp_box1 fun X hszX hbX hS => ?_
      have hbx := ext_trans hb hbX
      have g0 := hS.2 0
      clear hszX hS
      by_cases h0 : k = 0
      · subst h0
        have HZ : Hid (shardsTo l 1 = [s.shard]) := by exact (by simp [shardsTo, newAt, hgk] : shardsTo l 1 = [s.shard])
        clear hgk
        go_quiet (fail)
        go_wp2
        exact ⟨⟨1, by omega, rfl, by rw [HZ.out]; rfl, below_drewN hbx _⟩, by simp [intOf]; omega⟩
      · obtain ⟨j, rfl⟩ : ∃ j, k = j + 1 := ⟨k - 1, by omega⟩
        have hgj := List.getElem?_eq_getElem (show j < l.length by omega)
        generalize l[j] = s' at hgj
        obtain ⟨b', o', hb', f0, _⟩ := ev_cells (hs.ext hbx) hgj
        cases hb'
        have HSH : Hid (shardsTo l (j + 1 + 1) = shardsTo l (j + 1) ++ if s.shard = s'.shard then [] else [s.shard]) := by
          have : shardsTo l (j + 1 + 1) = shardsTo l (j + 1) ++ if s.shard = s'.shard then [] else [s.shard] := by
            rw [shardsTo, newAt, hgk, hgj]
            by_cases hq : s.shard = s'.shard <;> simp [hq]
          exact this
        clear hgk hgj h0
        have hj0 : (0 : Int) ≤ (j : Int) := Int.natCast_nonneg _
        have hj1 : (j : Int) < (l.length : Int) := by omega
        have hne0 : ((j : Int) + 1 == 0) = false := by simp; omega
        have hwj : IntKind.i64.wrap (j : Int) = (j : Int) := IntWalk.i64_in _ (by omega)
        by_cases hq : s.shard = s'.shard
        · have hq1 : (s.shard.toList == s'.shard.toList) = true := by rw [hq]; simp
          have HQ := Lib.hid hq
          clear hq
          go_quiet (fail)
          clear hwj
          go_wp2
          exact ⟨⟨j + 1 + 1, by omega, by go_num, by rw [HSH.out, if_pos HQ.out]; simp, below_drewN hbx _⟩, by simp [intOf]; omega⟩
        · have hq1 : (s.shard.toList == s'.shard.toList) = false := by
            simp only [beq_eq_false_iff_ne, ne_eq, ByteArray.toList_eq]; exact fun h => hq (bytes_ext h)
          have HQ := Lib.hid hq
          clear hq
          go_quiet (fail)
          clear hwj
          go_wp2
          exact ⟨⟨j + 1 + 1, by omega, by go_num, by rw [HSH.out, if_neg HQ.out]; simp, below_drewN hbx _⟩, by simp [intOf]; omega⟩
    · have hkl : k = l.length := by omega
      have HK := Lib.hid hkl
      clear hkl
      go_wp2
      go_ret
      exact ⟨ret_int (by unfold shardsOf; rw [← HK.out]), hb⟩
end Go.Proofs.YtbbfdkjamjmbmaaDoor
