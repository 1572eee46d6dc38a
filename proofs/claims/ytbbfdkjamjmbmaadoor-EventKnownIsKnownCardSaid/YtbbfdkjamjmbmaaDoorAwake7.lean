/- awake of the laws about events. -/
import Derived.Test.YtbbfdkjamjmbmaaDoorEvent
import Derived.Deep.QuietTactic
import Derived.BigQuiet
namespace Go.Proofs.YtbbfdkjamjmbmaaDoor
open Go.RowKit
set_option maxHeartbeats 2000000 in
theorem itoa_1 (w : World) : Calls Tryd.prog 31 #[.int .i64 1] w fun e w' => e = .returned (.string ⟨#[49]⟩) ∧ w = w' := by
  go_enter Tryd.func31, Tryd.ntmps31
  go_wp2
  go_ret
  exact ⟨rfl, rfl⟩
set_option maxHeartbeats 2000000 in
theorem itoa_5 (w : World) : Calls Tryd.prog 31 #[.int .i64 5] w fun e w' => e = .returned (.string ⟨#[53]⟩) ∧ w = w' := by
  go_enter Tryd.func31, Tryd.ntmps31
  go_wp2
  go_ret
  exact ⟨rfl, rfl⟩
abbrev ev7 : Ev := ⟨⟨#[115]⟩, 1, 3, 5, ⟨#[]⟩, ⟨#[]⟩, 0, 0⟩
theorem check7 : checkE ev7 = 0 := by simp [checkE, nameB, withinB, letterAt, wordC, wordN, ByteArray.toList_eq]
set_option maxHeartbeats 4000000 in
theorem show7 (w : World) : Calls Tryd.prog 22 #[.agg (evC ev7)] w fun e w' => e = .returned (.string ⟨#[115, 32, 49, 32, 53, 32, 109, 97, 114, 107]⟩) ∧ Below w.heap.size w w' := by
  go_enter Tryd.func22, Tryd.ntmps22
  go_wp2_with fail
  refine wp_box1 fun W hsz hbW hA => ?_
  clear hsz
  go_region_held3 (S2 W w.heap.size (evC ev7) w.heap.size (evC ev7)) (first | exact S2.start hA hA | assumption) (first | (go_at_call 31; with_reducible refine (itoa_1 _).mono ?_; rintro e w1 ⟨rfl, rfl⟩) | (go_at_call 31; with_reducible refine (itoa_5 _).mono ?_; rintro e w2 ⟨rfl, rfl⟩))
  have k2 := hA.2 2
  go_wp2
  go_ret
  exact ⟨rfl, hbW.trans (Below.mono (S2.base (by assumption)) hbW.size)⟩
set_option maxHeartbeats 4000000 in
theorem show_7 (w : World) : Calls Tryd.prog 11 #[.agg (evC ev7)] w fun e w' => e = .returned (.tuple #[.string ⟨#[115, 32, 49, 32, 53, 32, 109, 97, 114, 107]⟩, .int .i64 0]) ∧ Below w.heap.size w w' := by
  have hc := fun W => event_Check ev7 ⟨by decide, by decide, by decide⟩ W
  rw [check7] at hc
  have HC : Aside _ := hc
  clear hc
  go_enter Tryd.func11, Tryd.ntmps11
  go_wp2_with fail
  have hA : Box (w.alloc (.cells (evC ev7) 29)) w.heap.size (evC ev7) := Box.new _ _ _
  refine (HC.out _).mono ?_
  rintro e w1 ⟨rfl, hb1⟩
  have hA1 := hA.ext hb1
  have k0 := hA1.2 0; have k1 := hA1.2 1; have k2 := hA1.2 2; have k3 := hA1.2 3; have k4 := hA1.2 4; have k5 := hA1.2 5; have k6 := hA1.2 6; have k7 := hA1.2 7
  have hbw : Below w.heap.size w w1 := (ext_alloc _ _).trans (hb1.mono (by simp))
  clear hA hb1
  go_wp2_with fail
  refine (show7 _).mono ?_
  rintro e w2 ⟨rfl, hb2⟩
  have hbw2 := ext_trans hbw hb2
  go_wp2
  go_ret2
  exact ⟨rfl, hbw2⟩
set_option maxHeartbeats 4000000 in
theorem awake7 (w : World) : Calls Tryd.prog 5 #[] w fun e w' => e = .returned (.bool true) ∧ Below w.heap.size w w' := by
  go_enter Tryd.func5, Tryd.ntmps5
  go_wp2_with fail
  refine (show_7 _).mono ?_
  rintro e w1 ⟨rfl, hb1⟩
  go_wp2
  go_ret
  exact ⟨rfl, hb1⟩
end Go.Proofs.YtbbfdkjamjmbmaaDoor
