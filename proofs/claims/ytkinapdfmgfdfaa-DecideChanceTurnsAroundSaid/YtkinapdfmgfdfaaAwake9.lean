/- awake of package burgeelaw9; slices.Equal at ratios. -/
import Derived.Test.YtkinapdfmgfdfaaDecLaw
import Derived.Test.YtkinapdfmgfdfaaCatT
namespace Go.Proofs.Ytkinapdfmgfdfaa
open Go.RowKit
namespace Nm
theorem awake_pairs : pairL [⟨0, false⟩, ⟨1, true⟩] = [1] ∧ pairF [⟨0, false⟩, ⟨1, true⟩] = 0 := by decide
set_option maxHeartbeats 2000000 in
theorem awake_at (w : World) : Calls Try.prog 6 #[] w (BPost w true) := by
  have HP := Lib.hid awake_pairs
  go_enter Try.func6, Try.ntmps6
  go_wp2_with fail
  refine (decide_Pairs [⟨0, false⟩, ⟨1, true⟩] (some ⟨w.heap.size, 0, none⟩) 2 _ (Sl.new w #[.int .i64 0, .bool false, .int .i64 1, .bool true] _ 2 2 (by omega) (by decide))).mono ?_
  rintro e w1 hpost
  unfold IntsPost at hpost
  rw [HP.out.1, HP.out.2] at hpost
  obtain ⟨a, cap, rfl, hs, hb⟩ := hpost
  obtain ⟨b, o, rfl, hc⟩ := sl_addr (k := 0) hs (show (icells [1])[0]? = some (.int .i64 1) from rfl)
  rw [Nat.add_zero] at hc
  have hbw := ext_trans (ext_alloc w _) hb
  clear hs hb
  go_wp2
  go_ret
  exact ⟨rfl, hbw⟩
theorem ratL_len (q : Rat) : (ratL q).length = 2 := rfl
set_option maxRecDepth 100000 in
set_option maxHeartbeats 8000000 in
theorem equal_rats (l : List Rat) (a a' : Option Addr) (c c' : Nat) (w : World) (s1 : Sl w (.slice a l.length c) l.length (l.flatMap ratL)) (s2 : Sl w (.slice a' l.length c') l.length (l.flatMap ratL)) :
    Calls Try.prog 12 #[.slice a l.length c, .slice a' l.length c'] w fun e w' => e = .returned (.bool true) ∧ Below w.heap.size w w' := by
  have hl : l.length ≤ 9223372036854775807 := by obtain ⟨_, _, hv, h1, h2, _⟩ := s1; cases hv; unfold maxLen at h2; omega
  have hne : ((l.length : Int) != (l.length : Int)) = false := by simp
  go_enter Try.func12, Try.ntmps12
  go_wp2
  go_loopw [13] (fun i wr => ∃ k : Nat, k ≤ l.length ∧ i = .int .i64 k ∧ Below w.heap.size w wr) (fun i _ => l.length - (intOf i).toNat)
  case atStart => exact ⟨0, by omega, rfl, Below.refl _ _⟩
  case round =>
    obtain ⟨k, hk, rfl, hb⟩ := hrel
    by_cases hlt : k < l.length
    · have hgk := List.getElem?_eq_getElem hlt
      generalize l[k] = s at hgk
      obtain ⟨b, o, rfl, hcs⟩ := (s1.ext hb).elem ratL_len (by omega : 0 < 2) hgk
      obtain ⟨b', o', rfl, hcs'⟩ := (s2.ext hb).elem ratL_len (by omega : 0 < 2) hgk
      have e0 := hcs 0 _ rfl
      have f0 := hcs' 0 _ rfl
      have e1 := hcs 1 _ rfl
      have f1 := hcs' 1 _ rfl
      rw [Nat.add_zero] at e0 f0
      clear hcs hcs' hgk
      have hi0 : (0 : Int) ≤ (k : Int) := Int.natCast_nonneg _
      have hi1 : (k : Int) < (l.length : Int) := by omega
      go_wp2_with fail
      go_quiet (fail)
      go_wp2
      exact ⟨⟨k + 1, by omega, by go_num, below_drewN hb _⟩, by simp [intOf]; omega⟩
    · go_wp2
      go_ret
      exact ⟨rfl, hb⟩
end Nm
end Go.Proofs.Ytkinapdfmgfdfaa
