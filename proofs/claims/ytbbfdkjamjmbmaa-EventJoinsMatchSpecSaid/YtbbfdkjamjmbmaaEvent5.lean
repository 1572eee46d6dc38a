/- The reference's shards. -/
import Derived.Test.YtbbfdkjamjmbmaaEvent4
namespace Go.Proofs.Ytbbfdkjamjmbmaa
open Go.RowKit
theorem string_info : (Try.prog.info? 9).map (fun i => (i.zero, i.size, i.bytes)) = some (some (.string { data := #[] }), 1, 16) := by kernel_rfl
theorem shards_last (l : List Ev) : ∀ k, k < l.length → (shardsTo l (k + 1)).getLast? = (l[k]?).map Ev.shard
  | 0, h => by simp [shardsTo, newAt, List.getElem?_eq_getElem h]
  | k + 1, h => by
    have ih := shards_last l k (by omega)
    rw [shardsTo]
    have h1 := List.getElem?_eq_getElem h
    have h2 := List.getElem?_eq_getElem (show k < l.length by omega)
    simp only [newAt, h1, h2, Option.map_some] at *
    by_cases hq : l[k + 1].shard = l[k].shard
    · simp [hq, ih]
    · simp [hq]
theorem shards_pos (l : List Ev) (k : Nat) (h : k < l.length) : 0 < (shardsTo l (k + 1)).length := by
  have := shards_last l k h
  rw [List.getElem?_eq_getElem h] at this
  cases hq : shardsTo l (k + 1) with
  | nil => rw [hq] at this; simp at this
  | cons _ _ => simp
/-- what a slice that the call owns looks like, and reads as -/
theorem own_form {w : World} {base e size n : Nat} {v : Value} {xs : List Value} (h : w.ownsRow base e size v n xs) (hn : 0 < n) : ∃ g cap, v = .slice (some ⟨g, 0, none⟩) n cap ∧ g < w.heap.size ∧ ∀ i x, xs[i]? = some x → w.cell? ⟨g, i, none⟩ = some x := by
  obtain ⟨a, cap, rfl, _, _, _, hc⟩ := Sl.ofOwn h
  obtain ⟨h1, h2⟩ := h
  rcases h2 with ⟨h0, rfl⟩ | ⟨g, cap', cur, hv, hb, hg, _⟩
  · omega
  · cases hv
    refine ⟨g, cap, rfl, (Array.getElem?_eq_some_iff.1 hg).1, fun i x hx => ?_⟩
    obtain ⟨b, o, hbo, hcell⟩ := hc i x hx
    cases hbo
    simpa using hcell
def ShardsPost (l : List Ev) (w : World) (e : Ending) (w' : World) : Prop :=
  ∃ a cap, e = .returned (.slice a (shardsOf l).length cap) ∧ Sl w' (.slice a (shardsOf l).length cap) (shardsOf l).length ((shardsOf l).map Value.string) ∧ Below w.heap.size w w'
set_option maxHeartbeats 4000000 in
theorem ref7_shards (l : List Ev) (hl2 : l.length ≤ 20000) (a : Option Addr) (c : Nat) (w : World) (hs : Sl w (.slice a l.length c) l.length (l.flatMap evL)) :
    Calls Try.prog 50 #[.slice a l.length c] w (ShardsPost l w) := by
  have HI := Lib.hid string_info
  go_enter Try.func50, Try.ntmps50
  go_wp2
  go_loopw [3, 9] (fun v i wr => ∃ k n : Nat, k ≤ l.length ∧ n ≤ k ∧ i = .int .i64 k ∧ wr.ownsRow w.heap.size 9 1 v n ((shardsTo l k).map Value.string) ∧ Hid ((shardsTo l k).length = n) ∧ Below w.heap.size w wr) (fun _ i _ => l.length - (intOf i).toNat)
  case atStart => exact ⟨0, 0, by omega, by omega, rfl, World.ownsRow_nil _ _ _ _, rfl, Below.refl _ _⟩
  case round =>
    obtain ⟨k, n, hk, hnk, rfl, hown, HN, hb⟩ := hrel
    by_cases hlt : k < l.length
    · have hgk := List.getElem?_eq_getElem hlt
      generalize l[k] = s at hgk
      obtain ⟨b, o, rfl, e0, e1, e2, e3, e4, e5, e6, e7⟩ := ev_cells (hs.ext hb) hgk
      have hsz := hb.size
      have HK1 : Hid (shardsTo l (k + 1) = shardsTo l k ++ if newAt l k then [s.shard] else []) := by
        have : shardsTo l (k + 1) = shardsTo l k ++ if newAt l k then [s.shard] else [] := by rw [shardsTo, hgk]; rfl
        exact this
      have hb0 : ∀ q, u3.ownBlock = some q → w.heap.size ≤ q := fun q hq => (hown.lt q hq).1
      have HB0 := Lib.hid hb0
      clear hb0
      go_upto_region 5 with (fail)
      clear e0 e1 e2 e3 e4 e5 e6 e7
      refine wp_box1 fun X hszX hbX hX => ?_
      have hbx := ext_trans hb hbX
      have hownX := ownsRow_ext hown hbX
      have hszx := hbx.size
      clear hszX hown hb hbX hsz
      have g0 := hX.2 0
      by_cases h0 : k = 0
      · subst h0
        obtain rfl : n = 0 := by omega
        obtain ⟨a3, c3, rfl, _⟩ := Sl.ofOwn hownX
        have HN2 : Hid (shardsTo l 1 = shardsTo l 0 ++ [s.shard]) := by have := HK1.out; simp [newAt] at this; exact this
        go_wp2_with fail
        go_quiet (fail)
        have g1 := (Box.ext hX (below_drewN (Below.refl _ _) nq)).2 0
        go_wp2_with (at_builtin; refine wpList_append_sl rfl _ _ 38 rfl w.heap.size 9 Try.underlying38 HI.out rfl (by decide) rfl (ownsRow_ext (ownsRow_ext hownX (below_drewN (Below.refl _ _) nq)) (ext_alloc _ _)) rfl (Sl.new _ #[.string s.shard] _ 1 1 (by omega) (by decide)) rfl (by intro u hu; simp at hu; subst hu; rfl) (by unfold maxLen; omega) (by omega) (by simp; omega) ?_; intro v7 w7 hown7 hg7 _)
        have hown8 : w7.ownsRow w.heap.size 9 1 v7 (0 + 1) ((shardsTo l (0 + 1)).map Value.string) := by rw [HN2.out, List.map_append]; exact hown7
        have hb8 : Below w.heap.size w w7 := (ext_trans (ext_trans hbx (below_drewN (Below.refl _ _) nq)) (ext_alloc _ _)).grown hg7 (by simp; omega) (fun q hq => HB0.out q hq)
        have HN3 : Hid ((shardsTo l (0 + 1)).length = 0 + 1) := by
          have h1 := HN.out
          exact (by rw [HN2.out, List.length_append, h1]; rfl : (shardsTo l (0 + 1)).length = 0 + 1)
        clear hown7 hg7 g1
        go_wp2
        go_roundw
        case rel => exact ⟨0 + 1, 0 + 1, by omega, by omega, by go_num, hown8, HN3, hb8⟩
        case measure => simp [intOf]; omega
      · obtain ⟨j, rfl⟩ : ∃ j, k = j + 1 := ⟨k - 1, by omega⟩
        have hgj := List.getElem?_eq_getElem (show j < l.length by omega)
        have hpos := shards_pos l j (by omega)
        have hlast := shards_last l j (by omega)
        have hnew : newAt l (j + 1) = decide (s.shard ≠ l[j].shard) := by rw [newAt, hgk, hgj]; simp
        rw [hgj] at hlast
        generalize l[j] = s' at hlast hgj hnew
        rw [HN.out] at hpos
        obtain ⟨g, c3, rfl, hg, hcl⟩ := own_form hownX hpos
        obtain ⟨m, rfl⟩ : ∃ m, n = m + 1 := ⟨n - 1, by omega⟩
        have hcm : X.cell? ⟨g, m, none⟩ = some (.string s'.shard) := by
          refine hcl m _ ?_
          rw [List.getLast?_eq_getElem?, HN.out] at hlast
          rw [List.getElem?_map, show m = m + 1 - 1 by omega, hlast]; rfl
        have hm0 : (0 : Int) ≤ (m : Int) := Int.natCast_nonneg _
        have hne0 : ((m : Int) + 1 == 0) = false := by simp; omega
        have hwm : IntKind.i64.wrap (m : Int) = (m : Int) := IntWalk.i64_in _ (by omega)
        have hm1 : (m : Int) < (m : Int) + 1 := by omega
        clear hgk hgj hlast hcl hpos
        by_cases hq : s.shard = s'.shard
        · have hq1 : (s'.shard.toList == s.shard.toList) = true := by rw [hq]; simp
          have HN2 : Hid (shardsTo l (j + 1 + 1) = shardsTo l (j + 1)) := by have := HK1.out; rw [hnew] at this; simp [hq] at this; exact this
          clear hq hnew
          go_wp2_with fail
          go_quiet (fail)
          clear hwm
          have hownY : (X.drewN nq).ownsRow w.heap.size 9 1 (.slice (some ⟨g, 0, none⟩) (m + 1) c3) (m + 1) ((shardsTo l (j + 1 + 1)).map Value.string) := by rw [HN2.out]; exact ownsRow_ext hownX (below_drewN (Below.refl _ _) nq)
          have HN3 : Hid ((shardsTo l (j + 1 + 1)).length = m + 1) := by rw [HN2.out]; exact HN
          have hb8 := ext_trans hbx (below_drewN (Below.refl _ _) nq)
          go_wp2
          go_roundw
          case rel => exact ⟨j + 1 + 1, m + 1, by omega, by omega, by go_num, hownY, HN3, hb8⟩
          case measure => simp [intOf]; omega
        · have hq1 : (s'.shard.toList == s.shard.toList) = false := by
            simp only [beq_eq_false_iff_ne, ne_eq, ByteArray.toList_eq]; exact fun h => hq (bytes_ext h).symm
          have HN2 : Hid (shardsTo l (j + 1 + 1) = shardsTo l (j + 1) ++ [s.shard]) := by have := HK1.out; rw [hnew] at this; simp [hq] at this; exact this
          clear hq hnew
          go_wp2_with fail
          go_quiet (fail)
          clear hwm
          have g1 := (Box.ext hX (below_drewN (Below.refl _ _) nq)).2 0
          go_wp2_with (at_builtin; refine wpList_append_sl rfl _ _ 38 rfl w.heap.size 9 Try.underlying38 HI.out rfl (by decide) rfl (ownsRow_ext (ownsRow_ext hownX (below_drewN (Below.refl _ _) nq)) (ext_alloc _ _)) rfl (Sl.new _ #[.string s.shard] _ 1 1 (by omega) (by decide)) rfl (by intro u hu; simp at hu; subst hu; rfl) (by unfold maxLen; omega) (by omega) (by simp; omega) ?_; intro v7 w7 hown7 hg7 _)
          have hown8 : w7.ownsRow w.heap.size 9 1 v7 (m + 1 + 1) ((shardsTo l (j + 1 + 1)).map Value.string) := by rw [HN2.out, List.map_append]; exact hown7
          have hb8 : Below w.heap.size w w7 := (ext_trans (ext_trans hbx (below_drewN (Below.refl _ _) nq)) (ext_alloc _ _)).grown hg7 (by simp; omega) (fun q hq => HB0.out q hq)
          have HN3 : Hid ((shardsTo l (j + 1 + 1)).length = m + 1 + 1) := by
            have h1 := HN.out
            exact (by rw [HN2.out, List.length_append, h1]; rfl : (shardsTo l (j + 1 + 1)).length = m + 1 + 1)
          clear hown7 hg7 g1
          go_wp2
          go_roundw
          case rel => exact ⟨j + 1 + 1, m + 1 + 1, by omega, by omega, by go_num, hown8, HN3, hb8⟩
          case measure => simp [intOf]; omega
    · have hkl : k = l.length := by omega
      have HK := Lib.hid hkl
      clear hkl
      obtain ⟨a3, c3, rfl, _⟩ := Sl.ofOwn hown
      go_wp2
      go_ret
      refine ⟨a3, c3, ?_, ?_, hb⟩
      · unfold shardsOf; rw [← HK.out, HN.out]; rfl
      · unfold shardsOf; rw [← HK.out, HN.out]; exact Sl.ofOwn hown
end Go.Proofs.Ytbbfdkjamjmbmaa
