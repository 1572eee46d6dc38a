/- slices.Contains at events and at strings. -/
import Derived.Test.YtbbfdkjamjmbmaaDoorEvEq
import Derived.Test.YtbbfdkjamjmbmaaDoorEvent5
import Derived.Test.YtbbfdkjamjmbmaaDoorEvent6
import Derived.Deep.QuietTactic
import Derived.BigQuiet
namespace Go.Proofs.YtbbfdkjamjmbmaaDoor
open Go.RowKit
/-- an index where it is, or -1 -/
def IdxPost (p : Prop) (w : World) (e : Ending) (w' : World) : Prop := ∃ r : Int, e = .returned (.int .i64 r) ∧ (0 ≤ r ↔ p) ∧ Below w.heap.size w w'
/-- whether it is there -/
def HasPost (p : Prop) (w : World) (e : Ending) (w' : World) : Prop := ∃ b : Bool, e = .returned (.bool b) ∧ (b = true ↔ p) ∧ Below w.heap.size w w'
set_option maxHeartbeats 4000000 in
theorem index_str (L : List ByteArray) (s : ByteArray) (a : Option Addr) (c : Nat) (w : World) (hs : Sl w (.slice a L.length c) L.length (L.map Value.string)) :
    Calls Tryd.prog 28 #[.slice a L.length c, .string s] w (IdxPost (s ∈ L) w) := by
  have hl := hs.len_le
  go_enter Tryd.func28, Tryd.ntmps28
  go_wp2
  go_loop [8] (fun i => ∃ k : Nat, k ≤ L.length ∧ i = .int .i64 k ∧ Hid (∀ j x, j < k → L[j]? = some x → x ≠ s)) (fun i => L.length - (intOf i).toNat)
  case atStart => exact ⟨0, by omega, rfl, fun j x hj => by omega⟩
  case round =>
    obtain ⟨k, hk, rfl, HK⟩ := hrel
    by_cases hlt : k < L.length
    · have hgk := List.getElem?_eq_getElem hlt
      generalize L[k] = x at hgk
      obtain ⟨a', cap, hv, _, _, _, h3⟩ := id hs
      cases hv
      obtain ⟨b, o, rfl, e0⟩ := h3 k (.string x) (by rw [List.getElem?_map, hgk]; rfl)
      have HG := Lib.hid hgk
      clear h3 hgk
      by_cases hq : x = s
      · have hq1 : (s.toList == x.toList) = true := by rw [hq]; simp
        have HP : Hid (IdxPost (s ∈ L) w (.returned (.int .i64 (k : Int))) w) := ⟨k, rfl, ⟨fun _ => by rw [← hq]; exact List.mem_of_getElem? HG.out, fun _ => by omega⟩, Below.refl _ _⟩
        clear hq
        go_wp2
        go_ret
        exact HP.out
      · have hq1 : (s.toList == x.toList) = false := by
          simp only [beq_eq_false_iff_ne, ne_eq, ByteArray.toList_eq]; exact fun h => hq (bytes_ext h).symm
        have HK2 : Hid (∀ j y, j < k + 1 → L[j]? = some y → y ≠ s) := by
          intro j y hj hy
          by_cases e : j = k
          · subst e; rw [HG.out] at hy; cases hy; exact hq
          · exact HK.out j y (by omega) hy
        clear hq
        go_wp2
        go_round
        case rel => exact ⟨k + 1, by omega, by go_num, HK2⟩
        case measure => simp [intOf]; omega
    · have HP : Hid (IdxPost (s ∈ L) w (.returned (.int .i64 (-1))) w) := by
        refine ⟨-1, rfl, ⟨fun h => by omega, fun h => ?_⟩, Below.refl _ _⟩
        obtain ⟨j, hj, he⟩ := List.getElem_of_mem h
        exact absurd he (HK.out j _ (by omega) (List.getElem?_eq_getElem hj))
      go_wp2
      go_ret
      exact HP.out
set_option maxHeartbeats 4000000 in
theorem contains_str (L : List ByteArray) (s : ByteArray) (a : Option Addr) (c : Nat) (w : World) (hs : Sl w (.slice a L.length c) L.length (L.map Value.string)) :
    Calls Tryd.prog 19 #[.slice a L.length c, .string s] w (HasPost (s ∈ L) w) := by
  go_enter Tryd.func19, Tryd.ntmps19
  go_wp2_with fail
  refine (index_str L s a c _ hs).mono ?_
  rintro e w1 ⟨r, rfl, hr, hb⟩
  have HD : Hid (HasPost (s ∈ L) w (.returned (.bool (decide (0 ≤ r)))) w1) := ⟨_, rfl, by rw [decide_eq_true_iff]; exact hr, hb⟩
  clear hr
  go_wp2
  go_ret
  exact HD.out
set_option maxRecDepth 100000 in
set_option maxHeartbeats 8000000 in
theorem index_ev (l : List Ev) (s : Ev) (a : Option Addr) (c : Nat) (w : World) (hs : Sl w (.slice a l.length c) l.length (l.flatMap evL)) :
    Calls Tryd.prog 20 #[.slice a l.length c, .agg (evC s)] w (IdxPost (s ∈ l) w) := by
  have hl := hs.len_le
  go_enter Tryd.func20, Tryd.ntmps20
  go_wp2
  refine wp_box1 fun X hszX hbX hX => ?_
  clear hszX
  go_loopw [8] (fun i wr => ∃ k : Nat, k ≤ l.length ∧ i = .int .i64 k ∧ Hid (∀ j x, j < k → l[j]? = some x → x ≠ s) ∧ Below X.heap.size X wr) (fun i _ => l.length - (intOf i).toNat)
  case atStart => exact ⟨0, by omega, rfl, (fun j x hj => by omega), Below.refl _ _⟩
  case round =>
    obtain ⟨k, hk, rfl, HK, hb⟩ := hrel
    have hbw := ext_trans hbX hb
    by_cases hlt : k < l.length
    · have hgk := List.getElem?_eq_getElem hlt
      generalize l[k] = x at hgk
      obtain ⟨b, o, rfl, e0, e1, e2, e3, e4, e5, e6, e7⟩ := ev_cells (hs.ext hbw) hgk
      have HG := Lib.hid hgk
      have hXr := hX.ext hb
      have g0 := hXr.2 0; have g1 := hXr.2 1; have g2 := hXr.2 2; have g3 := hXr.2 3; have g4 := hXr.2 4; have g5 := hXr.2 5; have g6 := hXr.2 6; have g7 := hXr.2 7
      have hgd := fun op a b w => guard_ev op a b s x w
      have heq := eql_ev s x
      have hi0 : (0 : Int) ≤ (k : Int) := Int.natCast_nonneg _
      have hi1 : (k : Int) < (l.length : Int) := by omega
      clear hgk hXr
      by_cases hq : s = x
      · rw [decide_eq_true hq] at heq
        have HP : ∀ W, Below X.heap.size X W → IdxPost (s ∈ l) w (.returned (.int .i64 (k : Int))) W := fun W hW => ⟨k, rfl, ⟨fun _ => by rw [hq]; exact List.mem_of_getElem? HG.out, fun _ => by omega⟩, ext_trans hbX hW⟩
        have HPA : Aside _ := HP
        clear hq HP
        go_wp2_with fail
        go_quiet (fail)
        go_wp2
        go_ret
        exact HPA.out _ (below_drewN hb _)
      · rw [decide_eq_false hq] at heq
        have HK2 : Hid (∀ j y, j < k + 1 → l[j]? = some y → y ≠ s) := by
          intro j y hj hy
          by_cases e : j = k
          · subst e; rw [HG.out] at hy; cases hy; exact fun h => hq h.symm
          · exact HK.out j y (by omega) hy
        clear hq
        go_wp2_with fail
        go_quiet (fail)
        go_wp2
        exact ⟨⟨k + 1, by omega, by go_num, HK2, below_drewN hb _⟩, by simp [intOf]; omega⟩
    · have HP : Hid (IdxPost (s ∈ l) w (.returned (.int .i64 (-1))) wr) := by
        refine ⟨-1, rfl, ⟨fun h => by omega, fun h => ?_⟩, hbw⟩
        obtain ⟨j, hj, he⟩ := List.getElem_of_mem h
        exact absurd he (HK.out j _ (by omega) (List.getElem?_eq_getElem hj))
      go_wp2
      go_ret
      exact HP.out
set_option maxHeartbeats 4000000 in
theorem contains_ev (l : List Ev) (s : Ev) (a : Option Addr) (c : Nat) (w : World) (hs : Sl w (.slice a l.length c) l.length (l.flatMap evL)) :
    Calls Tryd.prog 10 #[.slice a l.length c, .agg (evC s)] w (HasPost (s ∈ l) w) := by
  go_enter Tryd.func10, Tryd.ntmps10
  go_wp2_with fail
  refine (index_ev l s a c _ (hs.ext (ext_alloc _ _))).mono ?_
  rintro e w1 ⟨r, rfl, hr, hb⟩
  have hbw : Below w.heap.size w w1 := (ext_alloc _ _).trans (hb.mono (by simp))
  have HD : Hid (HasPost (s ∈ l) w (.returned (.bool (decide (0 ≤ r)))) w1) := ⟨_, rfl, by rw [decide_eq_true_iff]; exact hr, hbw⟩
  clear hr hb
  go_wp2
  go_ret
  exact HD.out
end Go.Proofs.YtbbfdkjamjmbmaaDoor
