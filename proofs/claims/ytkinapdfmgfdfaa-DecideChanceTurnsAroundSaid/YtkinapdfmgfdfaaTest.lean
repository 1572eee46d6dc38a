/- decided and readTest of package decide. -/
import Derived.Test.YtkinapdfmgfdfaaDecided
import Derived.Test.YtkinapdfmgfdfaaPairs
namespace Go.Proofs.Ytkinapdfmgfdfaa
open Go.RowKit
theorem S2R.setN {W w1 : World} {B b1 : Nat} {A1 : Array Value} {b2 : Nat} {A2 : Array Value} {p : Addr} {v : Value} (h : S2R W B b1 A1 b2 A2 w1) (hp : B ≤ p.block) (h1 : b1 ≠ p.block) (h2 : b2 ≠ p.block) : S2R W B b1 A1 b2 A2 (w1.setCell p v) :=
  ⟨h.1.setCell hp _, fun j => by rw [World.cell?_setCell_other _ _ _ _ (fun e => h1 (by rw [e]))]; exact h.2.1 j, fun j => by rw [World.cell?_setCell_other _ _ _ _ (fun e => h2 (by rw [e]))]; exact h.2.2 j⟩
theorem box_cell {w : World} {b : Nat} {A : Array Value} (h : Box w b A) {j : Nat} (hj : j < A.size) (u : Value) : Box (w.setCell ⟨b, j, none⟩ u) b (A.setIfInBounds j u) := by
  refine ⟨by simpa [World.setCell] using h.1, fun i => ?_⟩
  by_cases e : i = j
  · subst e
    rw [World.cell?_setCell_same _ _ _ ((h.2 i).trans (Array.getElem?_eq_getElem hj))]
    simp [hj]
  · rw [World.cell?_setCell_other _ _ _ _ (by intro e'; cases e'; exact e rfl), h.2 i, Array.getElem?_setIfInBounds_ne (fun e' => e e'.symm)]
theorem box_other {w : World} {b b' : Nat} {A : Array Value} (h : Box w b A) (hne : b ≠ b') (j : Nat) (u : Value) : Box (w.setCell ⟨b', j, none⟩ u) b A :=
  ⟨by simpa [World.setCell] using h.1, fun i => by rw [World.cell?_setCell_other _ _ _ _ (by intro e; cases e; exact hne rfl)]; exact h.2 i⟩
namespace Nm
set_option maxHeartbeats 2000000 in
theorem decided_at (d : Int) (bets : Nat) (q : Rat) (b : Bool) (a1 : Option Addr) (n1 c1 : Nat) (a2 : Option Addr) (n2 c2 : Nat) (l : List Int) (a : Option Addr) (c : Nat) (w : World) (hB : Bett w d bets q b a1 n1 c1 a2 n2 c2) (hs : Sl w (.slice a l.length c) l.length (ics l)) (hl : l.length ≤ 60) :
    Calls Try.prog 16 #[.agg (betA d bets b a1 n1 c1 a2 n2 c2), .slice a l.length c] w (FPost w (decAt (decB d bets q) 0 0 0 l)) := by
  have HBT := Lib.hid hB
  have HS := Lib.hid hs
  clear hB hs
  go_enter Try.func16, Try.ntmps16
  go_upto_region 2 with (fail)
  refine wp_box2r fun W hsz hbW hA hC hF => ?_
  have HCE : Hid (CE w W w.heap.size (w.heap.size + 1) (betA d bets b a1 n1 c1 a2 n2 c2) 0) := ⟨hbW, hA, hC, hF, Nat.le_succ _, by omega⟩
  clear hsz hA hC hF hbW
  go_wp2_with fail
  refine (walk_decided d bets q b a1 n1 c1 a2 n2 c2 w _ _ l a c W HBT.out HS.out hl HCE.out).mono ?_
  rintro e w1 ⟨rfl, hce⟩
  have z0 : w1.cell? ⟨w.heap.size + 1, 0, none⟩ = some (.int .i64 (decAt (decB d bets q) 0 0 0 l : Nat)) := hce.at_.2 0
  have hb1 := hce.base
  clear hce
  go_wp2
  go_ret
  exact ⟨rfl, hb1⟩
end Nm
end Go.Proofs.Ytkinapdfmgfdfaa
