/- slices.Equal at rows of bools that are the same. Printed by gen_lawsev.py. -/
import Derived.Test.YtemenlcigengeaaGreatDoorTq43
import Derived.Test.YtemenlcigengeaaGreatDoorTq49
import Derived.Test.YtemenlcigengeaaGreatDoorProg
import Derived.Test.YtemenlcigengeaaGreatDoorTq00
import Derived.Test.YtemenlcigengeaaGreatDoorTq40
import Derived.Test.YtemenlcigengeaaGreatDoorTq23
import Derived.Test.YtemenlcigengeaaGreatDoorTq45
import Derived.Test.YtemenlcigengeaaGreatDoorTq50
import Derived.Test.YtemenlcigengeaaGreatDoorTq36
import Derived.Test.YtemenlcigengeaaGreatDoorTq41
import Derived.Test.YtemenlcigengeaaGreatDoorTq48
import Derived.Test.YtemenlcigengeaaGreatDoorTq16
import Derived.Test.YtemenlcigengeaaGreatDoorTq05
import Derived.Test.YtemenlcigengeaaGreatDoorTq06
import Derived.Test.YtemenlcigengeaaGreatDoorTq03
import Derived.Test.YtemenlcigengeaaGreatDoorTq07
import Derived.Test.YtemenlcigengeaaGreatDoorTq08
import Derived.Test.YtemenlcigengeaaGreatDoorTq31
import Derived.Test.YtemenlcigengeaaGreatDoorTq51
import Derived.Test.YtemenlcigengeaaGreatDoorTq52
import Derived.Test.YtemenlcigengeaaGreatDoorTq53
import Derived.Test.YtemenlcigengeaaGreatDoorTq54
namespace Go.Proofs.YtemenlcigengeaaGreatDoor
open Go.RowKit
namespace Nm
set_option maxRecDepth 100000 in
set_option maxHeartbeats 8000000 in
theorem equal_bools (l : List Bool) (a a' : Option Addr) (c c' : Nat) (w : World) (s1 : Sl w (.slice a l.length c) l.length (bcs l)) (s2 : Sl w (.slice a' l.length c') l.length (bcs l)) :
    Calls Tryz.prog 20 #[.slice a l.length c, .slice a' l.length c'] w fun e w' => e = .returned (.bool true) ∧ Below w.heap.size w w' := by
  have hl : l.length ≤ 9223372036854775807 := by obtain ⟨_, _, hv, h1, h2, _⟩ := s1; cases hv; unfold maxLen at h2; omega
  have hne : ((l.length : Int) != (l.length : Int)) = false := by simp
  go_enter Tryz.func20, Tryz.ntmps20
  go_wp2
  go_loopw [13] (fun i wr => ∃ k : Nat, k ≤ l.length ∧ i = .int .i64 k ∧ Below w.heap.size w wr) (fun i _ => l.length - (intOf i).toNat)
  case atStart => exact ⟨0, by omega, rfl, Below.refl _ _⟩
  case round =>
    obtain ⟨k, hk, rfl, hb⟩ := hrel
    by_cases hlt : k < l.length
    · have hgk := bcs_get hlt
      generalize l[k] = s at hgk
      obtain ⟨b, o, rfl, e0⟩ := Nt.sl_addr (s1.ext hb) hgk
      obtain ⟨b', o', rfl, f0⟩ := Nt.sl_addr (s2.ext hb) hgk
      have hi0 : (0 : Int) ≤ (k : Int) := Int.natCast_nonneg _
      have hi1 : (k : Int) < (l.length : Int) := by omega
      have hk3 : (k : Int).toNat = k := by omega
      have hss : (s != s) = false := by cases s <;> rfl
      clear hgk
      go_wp2_with fail
      go_quiet (fail)
      go_wp2
      exact ⟨⟨k + 1, by omega, by go_num, below_drewN hb _⟩, by simp [intOf]; omega⟩
    · go_wp2
      go_ret
      exact ⟨rfl, hb⟩
theorem eqRows_at {f : Int} {L : List Bool} {a a' : Option Addr} {n n' c c' : Nat} {w : World} (h : RowIf w f L a n c) (h' : RowIf w f L a' n' c') :
    Calls Tryz.prog 20 #[.slice a n c, .slice a' n' c'] w fun e w' => e = .returned (.bool true) ∧ Below w.heap.size w w' := by
  by_cases hf : f = 0
  · obtain ⟨rfl, h1⟩ := h.1 hf
    obtain ⟨rfl, h2⟩ := h'.1 hf
    exact equal_bools L a a' c c' w h1 h2
  · obtain ⟨rfl, rfl, rfl⟩ := h.2 hf
    obtain ⟨rfl, rfl, rfl⟩ := h'.2 hf
    exact equal_bools [] none none 0 0 w (Sl.nil w) (Sl.nil w)
end Nm
end Go.Proofs.YtemenlcigengeaaGreatDoor
