/- awake of package burgeelaw9; slices.Equal at ratios. -/
import Derived.Test.YtemenlcigengeaaGreatDoorTq62
namespace Go.Proofs.YtemenlcigengeaaGreatDoor
open Go.RowKit
namespace Nm
theorem awake_pairs : pairL [⟨0, false⟩, ⟨1, true⟩] = [1] ∧ pairF [⟨0, false⟩, ⟨1, true⟩] = 0 := by decide
set_option maxHeartbeats 2000000 in
theorem awake_at (w : World) : Calls Tryz.prog 23 #[] w (BPost w true) := by
  have HP := Lib.hid awake_pairs
  go_enter Tryz.func23, Tryz.ntmps23
  go_wp2_with fail
  refine (decide_Pairs [⟨0, false⟩, ⟨1, true⟩] (some ⟨w.heap.size, 0, none⟩) 2 _ (Sl.new w #[.int .i64 0, .bool false, .int .i64 1, .bool true] _ 2 2 (by omega) (by decide))).mono ?_
  rintro e w1 hpost
  unfold IntsPost at hpost
  rw [HP.out.1, HP.out.2] at hpost
  obtain ⟨a, cap, rfl, hs, hb⟩ := hpost
  obtain ⟨b, o, rfl, hc⟩ := sl_addr (k := 0) hs (show (icells [1])[0]? = some (.int .i64 1) from rfl)
  rw [Nat.add_zero] at hc
  have hbw := ext_trans (ext_alloc w _) hb
  clear hs hb
  go_wp2
  go_ret
  exact ⟨rfl, hbw⟩
theorem ratL_len (q : Rat) : (ratL q).length = 2 := rfl
end Nm
end Go.Proofs.YtemenlcigengeaaGreatDoor
