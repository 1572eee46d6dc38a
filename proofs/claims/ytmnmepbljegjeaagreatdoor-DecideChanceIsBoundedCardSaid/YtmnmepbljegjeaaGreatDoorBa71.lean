/- Plain: what more trials do to pairs, decisions and evidence. awake of package burgeelaw9; slices.Equal at ratios. -/
import Derived.Test.YtmnmepbljegjeaaGreatDoorBa48
namespace Go.Proofs.YtmnmepbljegjeaaGreatDoor
namespace Nm
theorem winsOf_append (a : Int) (l m : List Tri) : winsOf a (l ++ m) = winsOf a l ++ winsOf a m := by
  unfold winsOf; rw [List.filter_append, List.map_append]
theorem zip_pre (f : Bool → Bool → Int) : ∀ (a b c d : List Bool), ∃ r, List.zipWith f (a ++ c) (b ++ d) = List.zipWith f a b ++ r
  | [], b, c, d => ⟨_, rfl⟩
  | _ :: _, [], c, d => ⟨_, by simp; rfl⟩
  | x :: a, y :: b, c, d => by
    obtain ⟨r, h⟩ := zip_pre f a b c d
    exact ⟨r, by simp [h]⟩
/-- more trials only lengthen the pairs -/
theorem pairZ_more (l m : List Tri) : ∃ r, pairZ (l ++ m) = pairZ l ++ r := by
  unfold pairZ; rw [winsOf_append, winsOf_append]; exact zip_pre _ _ _ _ _
theorem evTrail_more (ev : Nat → Nat → Rat) : ∀ (l r : List Int) (u v : Nat), ∃ t, evTrail ev u v (l ++ r) = evTrail ev u v l ++ t
  | [], _, _, _ => ⟨_, rfl⟩
  | p :: l, r, u, v => by
    obtain ⟨t, h⟩ := evTrail_more ev l r (if p = 1 then u + 1 else u) (if p = -1 then v + 1 else v)
    exact ⟨t, by simp only [List.cons_append, evTrail, h]⟩
theorem decAt_range (dec : Nat → Nat → Bool) : ∀ (l : List Int) (u v k : Nat), decAt dec u v k l = 0 ∨ (k < decAt dec u v k l ∧ decAt dec u v k l ≤ k + l.length)
  | [], _, _, _ => .inl rfl
  | p :: l, u, v, k => by
    simp only [decAt]
    generalize (if p = 1 then u + 1 else u) = u'
    generalize (if p = -1 then v + 1 else v) = v'
    split
    · right; simp
    · rcases decAt_range dec l u' v' (k + 1) with h | h
      · exact .inl h
      · right; simp only [List.length_cons]; omega
theorem decAt_more (dec : Nat → Nat → Bool) : ∀ (l r : List Int) (u v k : Nat), (decAt dec u v k l ≠ 0 → decAt dec u v k (l ++ r) = decAt dec u v k l) ∧ (decAt dec u v k l = 0 → decAt dec u v k (l ++ r) = 0 ∨ k + l.length < decAt dec u v k (l ++ r))
  | [], r, u, v, k => ⟨fun h => absurd rfl h, fun _ => by
      rcases decAt_range dec r u v k with h | h
      · exact .inl h
      · exact .inr h.1⟩
  | p :: l, r, u, v, k => by
    simp only [List.cons_append, decAt]
    generalize (if p = 1 then u + 1 else u) = u'
    generalize (if p = -1 then v + 1 else v) = v'
    split
    · exact ⟨fun _ => rfl, fun h => by omega⟩
    · obtain ⟨h1, h2⟩ := decAt_more dec l r u' v' (k + 1)
      refine ⟨h1, fun h => ?_⟩
      rcases h2 h with h3 | h3
      · exact .inl h3
      · right; simp only [List.length_cons]; omega
/-- the law's last line -/
theorem stays (d k : Int) (n m : ByteArray) (l r : List Tri) (h1 : decF d k n m l = 0) (h2 : decF d k n m (l ++ r) = 0) :
    ∃ t, crsV d k n m (l ++ r) = crsV d k n m l ++ t ∧ (decV d k n m l ≠ 0 → decV d k n m (l ++ r) = decV d k n m l) ∧ (decV d k n m l = 0 → decV d k n m (l ++ r) = 0 ∨ (crsV d k n m l).length < decV d k n m (l ++ r)) := by
  unfold crsV decV
  rw [if_pos h1, if_pos h2, if_pos h1, if_pos h2]
  obtain ⟨s, hs⟩ := pairZ_more l r
  rw [hs, evTrail_length]
  obtain ⟨t, ht⟩ := evTrail_more (evQ d k.toNat) (pairZ l) s 0 0
  obtain ⟨m1, m2⟩ := decAt_more (decB d k.toNat (rQ n m)⁻¹) (pairZ l) s 0 0 0
  refine ⟨t, ht, m1, fun h => ?_⟩
  have := m2 h
  rw [Nat.zero_add] at this
  exact this
theorem decF_len {d k : Int} {n m : ByteArray} {l : List Tri} (h : decF d k n m l = 0) : l.length ≤ 20000 := by
  unfold decF at h
  by_cases ht : testF d k n m = 0
  · rw [if_pos ht] at h
    unfold pairF at h
    rcases Nat.lt_or_ge 20000 l.length with h1 | h1
    · rw [if_pos h1] at h; cases h
    · exact h1
  · rw [if_neg ht] at h; exact absurd h ht
end Nm
end Go.Proofs.YtmnmepbljegjeaaGreatDoor
namespace Go.Proofs.YtmnmepbljegjeaaGreatDoor
open Go.RowKit
namespace Nm
theorem awake_pairs : pairL [⟨0, false⟩, ⟨1, true⟩] = [1] ∧ pairF [⟨0, false⟩, ⟨1, true⟩] = 0 := by decide
set_option maxHeartbeats 2000000 in
theorem awake_at (w : World) : Calls Tryz.prog 54 #[] w (BPost w true) := by
  have HP := Lib.hid awake_pairs
  go_enter Tryz.func54, Tryz.ntmps54
  go_wp2_with fail
  refine (decide_Pairs [⟨0, false⟩, ⟨1, true⟩] (some ⟨w.heap.size, 0, none⟩) 2 _ (Sl.new w #[.int .i64 0, .bool false, .int .i64 1, .bool true] _ 2 2 (by omega) (by decide))).mono ?_
  rintro e w1 hpost
  unfold IntsPost at hpost
  rw [HP.out.1, HP.out.2] at hpost
  obtain ⟨a, cap, rfl, hs, hb⟩ := hpost
  obtain ⟨b, o, rfl, hc⟩ := sl_addr (k := 0) hs (show (icells [1])[0]? = some (.int .i64 1) from rfl)
  rw [Nat.add_zero] at hc
  have hbw := ext_trans (ext_alloc w _) hb
  clear hs hb
  go_wp2
  go_ret
  exact ⟨rfl, hbw⟩
theorem ratL_len (q : Rat) : (ratL q).length = 2 := rfl
set_option maxRecDepth 100000 in
set_option maxHeartbeats 8000000 in
theorem equal_rats (l : List Rat) (a a' : Option Addr) (c c' : Nat) (w : World) (s1 : Sl w (.slice a l.length c) l.length (l.flatMap ratL)) (s2 : Sl w (.slice a' l.length c') l.length (l.flatMap ratL)) :
    Calls Tryz.prog 39 #[.slice a l.length c, .slice a' l.length c'] w fun e w' => e = .returned (.bool true) ∧ Below w.heap.size w w' := by
  have hl : l.length ≤ 9223372036854775807 := by obtain ⟨_, _, hv, h1, h2, _⟩ := s1; cases hv; unfold maxLen at h2; omega
  have hne : ((l.length : Int) != (l.length : Int)) = false := by simp
  go_enter Tryz.func39, Tryz.ntmps39
  go_wp2
  go_loopw [13] (fun i wr => ∃ k : Nat, k ≤ l.length ∧ i = .int .i64 k ∧ Below w.heap.size w wr) (fun i _ => l.length - (intOf i).toNat)
  case atStart => exact ⟨0, by omega, rfl, Below.refl _ _⟩
  case round =>
    obtain ⟨k, hk, rfl, hb⟩ := hrel
    by_cases hlt : k < l.length
    · have hgk := List.getElem?_eq_getElem hlt
      generalize l[k] = s at hgk
      obtain ⟨b, o, rfl, hcs⟩ := (s1.ext hb).elem ratL_len (by omega : 0 < 2) hgk
      obtain ⟨b', o', rfl, hcs'⟩ := (s2.ext hb).elem ratL_len (by omega : 0 < 2) hgk
      have e0 := hcs 0 _ rfl
      have f0 := hcs' 0 _ rfl
      have e1 := hcs 1 _ rfl
      have f1 := hcs' 1 _ rfl
      rw [Nat.add_zero] at e0 f0
      clear hcs hcs' hgk
      have hi0 : (0 : Int) ≤ (k : Int) := Int.natCast_nonneg _
      have hi1 : (k : Int) < (l.length : Int) := by omega
      go_wp2_with fail
      go_quiet (fail)
      go_wp2
      exact ⟨⟨k + 1, by omega, by go_num, below_drewN hb _⟩, by simp [intOf]; omega⟩
    · go_wp2
      go_ret
      exact ⟨rfl, hb⟩
end Nm
end Go.Proofs.YtmnmepbljegjeaaGreatDoor
