/- slices.Equal at events that are the same. -/
import Derived.Test.YtbbfdkjamjmbmaaDoorEvent7
namespace Go.Proofs.YtbbfdkjamjmbmaaDoor
open Go.RowKit
set_option maxRecDepth 100000 in
set_option maxHeartbeats 8000000 in
theorem equal_events (l : List Ev) (a a' : Option Addr) (c c' : Nat) (w : World) (s1 : Sl w (.slice a l.length c) l.length (l.flatMap evL)) (s2 : Sl w (.slice a' l.length c') l.length (l.flatMap evL)) :
    Calls Tryd.prog 7 #[.slice a l.length c, .slice a' l.length c'] w fun e w' => e = .returned (.bool true) ∧ Below w.heap.size w w' := by
  have hl : l.length ≤ 9223372036854775807 := by obtain ⟨_, _, hv, h1, h2, _⟩ := s1; cases hv; unfold maxLen at h2; omega
  have hne : ((l.length : Int) != (l.length : Int)) = false := by simp
  go_enter Tryd.func7, Tryd.ntmps7
  go_wp2
  go_loopw [13] (fun i wr => ∃ k : Nat, k ≤ l.length ∧ i = .int .i64 k ∧ Below w.heap.size w wr) (fun i _ => l.length - (intOf i).toNat)
  case atStart => exact ⟨0, by omega, rfl, Below.refl _ _⟩
  case round =>
    obtain ⟨k, hk, rfl, hb⟩ := hrel
    by_cases hlt : k < l.length
    · have hgk := List.getElem?_eq_getElem hlt
      generalize l[k] = s at hgk
      obtain ⟨b, o, rfl, hcs⟩ := (s1.ext hb).elem evL_len (by omega : 0 < 8) hgk
      obtain ⟨b', o', rfl, hcs'⟩ := (s2.ext hb).elem evL_len (by omega : 0 < 8) hgk
      have e0 := hcs 0 _ rfl
      have f0 := hcs' 0 _ rfl
      have e1 := hcs 1 _ rfl
      have f1 := hcs' 1 _ rfl
      have e2 := hcs 2 _ rfl
      have f2 := hcs' 2 _ rfl
      have e3 := hcs 3 _ rfl
      have f3 := hcs' 3 _ rfl
      have e4 := hcs 4 _ rfl
      have f4 := hcs' 4 _ rfl
      have e5 := hcs 5 _ rfl
      have f5 := hcs' 5 _ rfl
      have e6 := hcs 6 _ rfl
      have f6 := hcs' 6 _ rfl
      have e7 := hcs 7 _ rfl
      have f7 := hcs' 7 _ rfl
      rw [Nat.add_zero] at e0 f0
      clear hcs hcs' hgk
      have hi0 : (0 : Int) ≤ (k : Int) := Int.natCast_nonneg _
      have hi1 : (k : Int) < (l.length : Int) := by omega
      go_wp2_with fail
      go_quiet (fail)
      go_wp2
      exact ⟨⟨k + 1, by omega, by go_num, below_drewN hb _⟩, by simp [intOf]; omega⟩
    · go_wp2
      go_ret
      exact ⟨rfl, hb⟩

end Go.Proofs.YtbbfdkjamjmbmaaDoor
