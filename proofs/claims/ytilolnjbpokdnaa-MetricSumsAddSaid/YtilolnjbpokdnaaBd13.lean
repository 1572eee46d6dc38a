/- TrimPrefix of package strings at "-"; long, whole and readMiss of package decide. readMiss of package decide. decides of package decide, and the closure that decided hands to walk. The closure that decided hands to walk; walk with it; decided. Pairs of package decide: two rows of the call's own that grow, in an array of two. decided and readTest of package decide. readTest of package decide. The closure that Course hands to walk; walk with it. readPlan of package decide. Numbers as lists of digits to the base 10^9, the least one first: plain mathematics, no program stands in it. -/
import Derived.Test.YtilolnjbpokdnaaBd11
import Derived.Test.YtilolnjbpokdnaaBd12
import Derived.Deep.Cut
import Derived.Test.YtilolnjbpokdnaaProg
import Derived.Test.YtilolnjbpokdnaaBd00
import Derived.Maps.AppendAt
import Derived.Deep.RegionLaw
import Derived.Deep.QuietTactic
import Derived.BigQuiet
import Derived.BigRegion
import Derived.IntWalk
import Derived.Lib.Hide
namespace Go.Proofs.Ytilolnjbpokdnaa
open Go.RowKit
namespace Nm
set_option maxHeartbeats 2000000 in
theorem liteTrim_at (s : ByteArray) (hs : s.size ≤ maxLen) (w : World) : Calls Try.prog 40 #[.string s, .string ⟨#[45]⟩] w fun e w' => e = .returned (.string (cutS s)) ∧ w = w' := by
  have hs' := hs
  unfold maxLen at hs'
  by_cases h : cutB s.data.toList = true
  · have h1 : 1 ≤ s.size := by
      rcases Nat.lt_or_ge s.size 1 with h2 | h2
      · have := cut_none s h2; rw [h] at this; cases this
      · exact h2
    have HE : Hid (s.extract 1 s.size = cutS s) := by
      have : s.extract 1 s.size = cutS s := by unfold cutS; rw [if_pos h]
      exact this
    go_enter Try.func40, Try.ntmps40
    go_wp2_with fail
    refine (hasPrefix_at s hs w).mono ?_
    rw [h]
    rintro e w' ⟨rfl, rfl⟩
    clear h
    go_wp2
    go_ret
    refine ⟨?_, rfl⟩
    rw [← HE.out]; rfl
  · have hf : cutB s.data.toList = false := by simpa using h
    have HE : Hid (s = cutS s) := by
      have : s = cutS s := by unfold cutS; rw [if_neg h]
      exact this
    go_enter Try.func40, Try.ntmps40
    go_wp2_with fail
    refine (hasPrefix_at s hs w).mono ?_
    rw [hf]
    rintro e w' ⟨rfl, rfl⟩
    clear h hf
    go_wp2
    go_ret
    refine ⟨?_, rfl⟩
    rw [← HE.out]; rfl
theorem trimPrefix_at (s : ByteArray) (hs : s.size ≤ maxLen) (w : World) : Calls Try.prog 28 #[.string s, .string ⟨#[45]⟩] w fun e w' => e = .returned (.string (cutS s)) ∧ w = w' := by
  go_enter Try.func28, Try.ntmps28
  go_wp2_with fail
  refine (liteTrim_at s hs w).mono ?_
  rintro e w' ⟨rfl, rfl⟩
  go_wp2
  go_ret
  exact ⟨rfl, rfl⟩
def BPost (w : World) (b : Bool) (e : Ending) (w' : World) : Prop := e = .returned (.bool b) ∧ Below w.heap.size w w'
end Nm
end Go.Proofs.Ytilolnjbpokdnaa
namespace Go.Proofs.Ytilolnjbpokdnaa
open Go.RowKit
namespace Nm
theorem zero_is (q : Rat) (b : Bool) (hb : decide (q.num = 0) = b) (v : Value) (w : World) (hx : XR w v q) : Calls Try.prog 43 #[v] w (BPost w b) := by
  subst hb; exact zero_at q v w hx
theorem xcmp_is (x y : Rat) (z : Int) (hz : cmpQ x y = z) (v u : Value) (w : World) (hx : XR w v x) (hy : XR w u y) (l1 : wlen x.num.natAbs ≤ 100000000) (l2 : wlen x.den ≤ 100000000) (l3 : wlen y.num.natAbs ≤ 100000000) (l4 : wlen y.den ≤ 100000000) : Calls Try.prog 45 #[v, u] w (CmpPost w z) := by
  subst hz; exact xcmp_at x y v u w hx hy l1 l2 l3 l4
end Nm
end Go.Proofs.Ytilolnjbpokdnaa
namespace Go.Proofs.Ytilolnjbpokdnaa
open Go.RowKit
namespace Nm
/-- a bettor that lies in memory -/
structure Bett (w : World) (d : Int) (bets : Nat) (q : Rat) (b : Bool) (a1 : Option Addr) (n1 c1 : Nat) (a2 : Option Addr) (n2 c2 : Nat) : Prop where
  d1 : 1 ≤ d
  d3 : d ≤ 3
  b1 : 1 ≤ bets
  b5 : bets ≤ 5
  need : XR w (.agg #[.bool b, .slice a1 n1 c1, .slice a2 n2 c2]) q
  s1 : wlen q.num.natAbs ≤ 4000
  s2 : wlen q.den ≤ 4000
theorem Bett.ext {w w' : World} {d : Int} {bets : Nat} {q : Rat} {b : Bool} {a1 : Option Addr} {n1 c1 : Nat} {a2 : Option Addr} {n2 c2 : Nat} (h : Bett w d bets q b a1 n1 c1 a2 n2 c2) (hb : Below w.heap.size w w') : Bett w' d bets q b a1 n1 c1 a2 n2 c2 :=
  ⟨h.d1, h.d3, h.b1, h.b5, h.need.ext hb, h.s1, h.s2⟩
end Nm
end Go.Proofs.Ytilolnjbpokdnaa
namespace Go.Proofs.Ytilolnjbpokdnaa
open Go.RowKit
namespace Nm
/-- what the closure finds: the bettor's box, and the variable's -/
structure CE (w0 w : World) (bB bAt : Nat) (A : Array Value) (z : Int) : Prop where
  base : Below w0.heap.size w0 w
  box : Box w bB A
  at_ : Box w bAt #[.int .i64 z]
  fre : Fre w bAt
  le : w0.heap.size ≤ bAt
  ne : bB ≠ bAt
theorem CE.ext {w0 w w' : World} {bB bAt : Nat} {A : Array Value} {z : Int} (h : CE w0 w bB bAt A z) (hb : Below w.heap.size w w') : CE w0 w' bB bAt A z :=
  ⟨ext_trans h.base hb, h.box.ext hb, h.at_.ext hb, h.fre.ext h.at_ hb, h.le, h.ne⟩
theorem one_box {w : World} {b : Nat} {z y : Value} (h : Box w b #[z]) : Box (w.setCell ⟨b, 0, none⟩ y) b #[y] := by
  refine ⟨by simpa [World.setCell] using h.1, fun j => ?_⟩
  by_cases e : j = 0
  · subst e
    rw [World.cell?_setCell_same _ _ _ (h.2 0)]; rfl
  · rw [World.cell?_setCell_other _ _ _ _ (by intro e'; cases e'; exact e rfl), h.2 j]
    obtain ⟨k, rfl⟩ : ∃ k, j = k + 1 := ⟨j - 1, by omega⟩
    simp
theorem CE.set {w0 w : World} {bB bAt : Nat} {A : Array Value} {z : Int} (h : CE w0 w bB bAt A z) (y : Int) : CE w0 (w.setCell ⟨bAt, 0, none⟩ (.int .i64 y)) bB bAt A y := by
  refine ⟨h.base.setCell h.le _, ?_, one_box h.at_, fun j => by simp; exact h.fre j, h.le, h.ne⟩
  exact ⟨by simpa [World.setCell] using h.box.1, fun j => by rw [World.cell?_setCell_other _ _ _ _ (by intro e; cases e; exact h.ne rfl)]; exact h.box.2 j⟩
end Nm
end Go.Proofs.Ytilolnjbpokdnaa
namespace Go.Proofs.Ytilolnjbpokdnaa
open Go.RowKit

def bcs (l : List Bool) : List Value := l.map Value.bool
/-- two rows of the call's own, in an array of two -/
structure PW (wr : World) (bW base : Nat) (v0 v1 : Value) (l0 l1 : List Bool) : Prop where
  box : Box wr bW #[v0, v1]
  fre : Fre wr bW
  own0 : wr.ownsRow base 4 1 v0 l0.length (bcs l0)
  own1 : wr.ownsRow base 4 1 v1 l1.length (bcs l1)
  apart : ∀ k, v0.ownBlock = some k → v1.ownBlock = some k → False
  low : bW < base
theorem PW.ext {wr w' : World} {bW base : Nat} {v0 v1 : Value} {l0 l1 : List Bool} (h : PW wr bW base v0 v1 l0 l1) (hb : Below wr.heap.size wr w') : PW w' bW base v0 v1 l0 l1 :=
  ⟨h.box.ext hb, h.fre.ext h.box hb, ownsRow_ext h.own0 hb, ownsRow_ext h.own1 hb, h.apart, h.low⟩
theorem fre_set {w : World} {b : Nat} (h : Fre w b) (p : Addr) (u : Value) : Fre (w.setCell p u) b := fun j => by simp; exact h j
theorem ownsRow_far {w : World} {base e size n : Nat} {v : Value} {xs : List Value} (h : w.ownsRow base e size v n xs) {p : Addr} (hp : p.block < base) (u : Value) : (w.setCell p u).ownsRow base e size v n xs := by
  refine h.kept (row := some p.block) ⟨rfl, rfl, rfl, by simp [World.setCell], fun k hk hne => Below.heap_setCell w p u k (fun e => hne (by rw [e]))⟩ ?_
  cases e : v.ownBlock with
  | none => exact .inl rfl
  | some k => exact .inr (fun e' => by cases e'; have := (h.lt _ e).1; omega)
theorem fre_grown {w w' : World} {b : Nat} {row : Option Nat} (h : Fre w b) (hb : b < w.heap.size) (hg : w.grownBy w' row) (hr : ∀ q, row = some q → q ≠ b) : Fre w' b := fun j => by
  have e := hg.block b hb (fun e => hr b e.symm rfl)
  have h1 := h j
  unfold World.frozen? at h1 ⊢
  simp only [e] at *
  exact h1
theorem box_grown {w w' : World} {b : Nat} {A : Array Value} {row : Option Nat} (hg : w.grownBy w' row) (h : Box w b A) (hr : ∀ q, row = some q → q ≠ b) : Box w' b A :=
  ⟨Nat.lt_of_lt_of_le h.1 hg.size, fun j => (World.cell?_of_block (w := w) (hg.block b h.1 (fun e => hr b e.symm rfl))).trans (h.2 j)⟩
/-- what a push finds in the array of two -/
theorem PW.at {w w' : World} {bW base : Nat} {v0 v1 v : Value} {l0 l1 : List Bool} (h : PW w bW base v0 v1 l0 l1) (hv : v = v0 ∨ v = v1) (hg : w.grownBy w' v.ownBlock) : (∀ j, w'.cell? ⟨bW, j, none⟩ = #[v0, v1][j]?) ∧ ∀ j, w'.frozen? ⟨bW, j, none⟩ = false := by
  have hr : ∀ q, v.ownBlock = some q → q ≠ bW := fun q e => by
    rcases hv with rfl | rfl
    · have := (h.own0.lt q e).1; have := h.low; omega
    · have := (h.own1.lt q e).1; have := h.low; omega
  exact ⟨(box_grown hg h.box hr).2, fre_grown h.fre h.box.1 hg hr⟩
theorem PW.step {w X Y w7 : World} {base : Nat} {v0 v1 v : Value} {l0 l1 : List Bool} (hbx : Below w.heap.size w X) (h : PW X w.heap.size base v0 v1 l0 l1) (hXY : Below X.heap.size X Y) (hv : v = v0 ∨ v = v1) (hg : Y.grownBy w7 v.ownBlock) (j : Nat) (u : Value) :
    Below w.heap.size w (w7.setCell ⟨w.heap.size, j, none⟩ u) ∧ X.heap.size ≤ (w7.setCell ⟨w.heap.size, j, none⟩ u).heap.size := by
  have h1 := ext_trans hbx hXY
  refine ⟨(h1.grown hg h1.size (fun q e => ?_)).setCell (Nat.le_refl _) _, ?_⟩
  · have hl := h.low
    rcases hv with rfl | rfl
    · have := (h.own0.lt q e).1; omega
    · have := (h.own1.lt q e).1; omega
  · have h2 := hXY.size
    have h3 := hg.size
    simp [World.setCell]; omega
def icells (l : List Int) : List Value := l.map (Value.int .i64)
end Go.Proofs.Ytilolnjbpokdnaa
namespace Go.Proofs.Ytilolnjbpokdnaa
open Go.RowKit
theorem box_cell {w : World} {b : Nat} {A : Array Value} (h : Box w b A) {j : Nat} (hj : j < A.size) (u : Value) : Box (w.setCell ⟨b, j, none⟩ u) b (A.setIfInBounds j u) := by
  refine ⟨by simpa [World.setCell] using h.1, fun i => ?_⟩
  by_cases e : i = j
  · subst e
    rw [World.cell?_setCell_same _ _ _ ((h.2 i).trans (Array.getElem?_eq_getElem hj))]
    simp [hj]
  · rw [World.cell?_setCell_other _ _ _ _ (by intro e'; cases e'; exact e rfl), h.2 i, Array.getElem?_setIfInBounds_ne (fun e' => e e'.symm)]
theorem box_other {w : World} {b b' : Nat} {A : Array Value} (h : Box w b A) (hne : b ≠ b') (j : Nat) (u : Value) : Box (w.setCell ⟨b', j, none⟩ u) b A :=
  ⟨by simpa [World.setCell] using h.1, fun i => by rw [World.cell?_setCell_other _ _ _ _ (by intro e; cases e; exact hne rfl)]; exact h.2 i⟩
namespace Nm
end Nm
end Go.Proofs.Ytilolnjbpokdnaa
namespace Go.Proofs.Ytilolnjbpokdnaa
open Go.RowKit
namespace Nm
theorem five {w : World} {b : Nat} {x0 x1 x2 x3 x4 : Value} (u0 u1 u2 u3 u4 : Value) (h : Box w b #[x0, x1, x2, x3, x4]) : Box (((((w.setCell ⟨b, 0, none⟩ u0).setCell ⟨b, 1, none⟩ u1).setCell ⟨b, 2, none⟩ u2).setCell ⟨b, 3, none⟩ u3).setCell ⟨b, 4, none⟩ u4) b #[u0, u1, u2, u3, u4] :=
  box_cell (box_cell (box_cell (box_cell (box_cell h (j := 0) (by simp) u0) (j := 1) (by simp) u1) (j := 2) (by simp) u2) (j := 3) (by simp) u3) (j := 4) (by simp) u4
end Nm
end Go.Proofs.Ytilolnjbpokdnaa
namespace Go.Proofs.Ytilolnjbpokdnaa
open Go.RowKit
namespace Nm
def Keeps (w w' : World) : Prop := ∀ a v, w.cell? a = some v → w'.cell? a = some v
theorem Keeps.refl (w : World) : Keeps w w := fun _ _ h => h
theorem Keeps.of_below {w w' : World} (h : Below w.heap.size w w') : Keeps w w' := fun a _ hc => (h.cell (p := a) (World.block_lt_of_cell? w a hc)).trans hc
theorem Keeps.trans {a b c : World} (h : Keeps a b) (k : Keeps b c) : Keeps a c := fun x v hx => k x v (h x v hx)
theorem Sl.keep {w w' : World} {v : Value} {n : Nat} {cs : List Value} (h : Sl w v n cs) (hk : Keeps w w') : Sl w' v n cs := by
  obtain ⟨a, cap, hv, h1, h2, h0, h3⟩ := h
  refine ⟨a, cap, hv, h1, h2, h0, fun i x hx => ?_⟩
  obtain ⟨b, o, ha, hc⟩ := h3 i x hx
  exact ⟨b, o, ha, hk _ _ hc⟩
structure CO (w0 wp w : World) (bB bE bO base : Nat) (A : Array Value) (v : Value) (n : Nat) (cs : List Value) : Prop where
  low : Below w0.heap.size w0 w
  box : Box w bB A
  e : Box w bE #[.int .i64 0]
  fe : Fre w bE
  o : Box w bO #[v]
  fo : Fre w bO
  own : w.ownsRow base 25 2 v n cs
  l1 : w0.heap.size ≤ bE
  l2 : w0.heap.size ≤ bO
  l3 : w0.heap.size ≤ base
  t1 : bB < base
  t2 : bE < base
  t3 : bO < base
  n1 : bB ≠ bE
  n2 : bB ≠ bO
  n3 : bE ≠ bO
  bs : base ≤ w.heap.size
  kp : Keeps wp w
  p1 : wp.heap.size ≤ bO
  p2 : wp.heap.size ≤ base
theorem CO.ext {w0 wp w w' : World} {bB bE bO base : Nat} {A : Array Value} {v : Value} {n : Nat} {cs : List Value} (h : CO w0 wp w bB bE bO base A v n cs) (hb : Below w.heap.size w w') : CO w0 wp w' bB bE bO base A v n cs :=
  ⟨ext_trans h.low hb, h.box.ext hb, h.e.ext hb, h.fe.ext h.e hb, h.o.ext hb, h.fo.ext h.o hb, ownsRow_ext h.own hb, h.l1, h.l2, h.l3, h.t1, h.t2, h.t3, h.n1, h.n2, h.n3, Nat.le_trans h.bs hb.size, h.kp.trans (.of_below hb), h.p1, h.p2⟩
theorem CO.push {w0 wp w w' : World} {bB bE bO base : Nat} {A : Array Value} {v v' : Value} {n n' : Nat} {cs cs' : List Value} (h : CO w0 wp w bB bE bO base A v n cs) (hown : w'.ownsRow base 25 2 v' n' cs') (hg : w.grownBy w' v.ownBlock) : CO w0 wp (w'.setCell ⟨bO, 0, none⟩ v') bB bE bO base A v' n' cs' := by
  have hr : ∀ (x : Nat), x < base → ∀ q, v.ownBlock = some q → q ≠ x := fun x hx q e => by have := (h.own.lt q e).1; omega
  have hlow := h.low.grown hg h.low.size (fun q e => by have := (h.own.lt q e).1; have := h.l3; omega)
  exact ⟨hlow.setCell h.l2 _, box_other (box_grown hg h.box (hr _ h.t1)) h.n2 _ _, box_other (box_grown hg h.e (hr _ h.t2)) h.n3 _ _, fre_set (fre_grown h.fe h.e.1 hg (hr _ h.t2)) _ _, one_box (box_grown hg h.o (hr _ h.t3)), fre_set (fre_grown h.fo h.o.1 hg (hr _ h.t3)) _ _, ownsRow_far hown h.t3 _, h.l1, h.l2, h.l3, h.t1, h.t2, h.t3, h.n1, h.n2, h.n3, Nat.le_trans h.bs (by have := hg.size; simpa [World.setCell] using this), (fun a u hc => by
    have hlt := World.block_lt_of_cell? wp a hc
    have hb : a.block ≠ bO := by have := h.p1; omega
    rw [World.cell?_setCell_other _ _ _ _ (by intro e; exact hb (by rw [← e]))]
    exact hg.cell (h.kp a u hc) (fun e => by have := (h.own.lt _ e.symm).1; have := h.p2; omega)), h.p1, h.p2⟩
theorem ownsRow_ne {w : World} {base e size n : Nat} {v : Value} {xs : List Value} (h : w.ownsRow base e size v n xs) {p : Addr} (hp : ∀ q, v.ownBlock = some q → q ≠ p.block) (u : Value) : (w.setCell p u).ownsRow base e size v n xs := by
  refine h.kept (row := some p.block) ⟨rfl, rfl, rfl, by simp [World.setCell], fun k hk hne => Below.heap_setCell w p u k (fun e => hne (by rw [e]))⟩ ?_
  cases e : v.ownBlock with
  | none => exact .inl rfl
  | some k => exact .inr (fun e' => by cases e'; exact hp _ e rfl)
theorem CO.far {w0 wp w : World} {bB bE bO base : Nat} {A : Array Value} {v : Value} {n : Nat} {cs : List Value} (h : CO w0 wp w bB bE bO base A v n cs) {r : Nat} (j : Nat) (hr : base ≤ r) (hv : ∀ q, v.ownBlock = some q → q ≠ r) (u : Value) : CO w0 wp (w.setCell ⟨r, j, none⟩ u) bB bE bO base A v n cs := by
  have h1 := h.t1
  have h2 := h.t2
  have h3 := h.t3
  have h4 := h.l3
  exact ⟨h.low.setCell (Nat.le_trans h4 hr) _, box_other h.box (by omega) _ _, box_other h.e (by omega) _ _, fre_set h.fe _ _, box_other h.o (by omega) _ _, fre_set h.fo _ _, ownsRow_ne h.own hv _, h.l1, h.l2, h.l3, h.t1, h.t2, h.t3, h.n1, h.n2, h.n3, by simpa [World.setCell] using h.bs, (fun a v' hc => by
    have hlt := World.block_lt_of_cell? wp a hc
    have hb : a.block ≠ r := by have := h.p2; omega
    rw [World.cell?_setCell_other _ _ _ _ (by intro e; exact hb (by rw [← e]))]
    exact h.kp a v' hc), h.p1, h.p2⟩
end Nm
end Go.Proofs.Ytilolnjbpokdnaa
namespace Go.Proofs.Ytilolnjbpokdnaa
open Go.RowKit
theorem Sl.keepQ {Q : Value → Prop} {w w' : World} {v r : Value} {n : Nat} {cs : List Value} (h : Sl w v n cs) (hq : ∀ u ∈ cs, ¬ Q u) (hR : RowQ Q w r) (hg : w.grownBy w' r.ownBlock) : Sl w' v n cs := by
  obtain ⟨a, cap, hv, h1, h2, h0, h3⟩ := h
  refine ⟨a, cap, hv, h1, h2, h0, fun i x hx => ?_⟩
  obtain ⟨b, o, ha, hc⟩ := h3 i x hx
  refine ⟨b, o, ha, hg.cell hc (fun e => ?_)⟩
  exact hq x (List.mem_of_getElem? hx) (hR b e.symm _ _ hc)
namespace Nm
def NW (u : Value) : Prop := isWord u = false
theorem N.keepQ {w w' : World} {v r : Value} {n : Nat} (h : N w v n) (hR : RowQ NW w r) (hg : w.grownBy w' r.ownBlock) : N w' v n := by
  refine Sl.keepQ h (fun u hu hw => ?_) hR hg
  simp only [wcs, List.mem_map] at hu
  obtain ⟨c, _, rfl⟩ := hu
  cases hw
theorem XR.keepQ {w w' : World} {v r : Value} {q : Rat} (h : XR w v q) (hR : RowQ NW w r) (hg : w.grownBy w' r.ownBlock) : XR w' v q := by
  obtain ⟨v1, v2, h0, h1, h2⟩ := h; exact ⟨v1, v2, h0, h1.keepQ hR hg, h2.keepQ hR hg⟩
structure BV where
  b : Bool
  a1 : Option Addr
  n1 : Nat
  c1 : Nat
  a2 : Option Addr
  n2 : Nat
  c2 : Nat
def BvOk (w : World) (K : Nat) (q : Rat) (v : BV) : Prop := Bett w 2 K q v.b v.a1 v.n1 v.c1 v.a2 v.n2 v.c2
theorem BvOk.ext {w w' : World} {K : Nat} {q : Rat} {v : BV} (h : BvOk w K q v) (hb : Below w.heap.size w w') : BvOk w' K q v := Bett.ext h hb
theorem BvOk.keepQ {w w' : World} {K : Nat} {q : Rat} {v : BV} {r : Value} (h : BvOk w K q v) (hR : RowQ NW w r) (hg : w.grownBy w' r.ownBlock) : BvOk w' K q v :=
  ⟨h.d1, h.d3, h.b1, h.b5, XR.keepQ h.need hR hg, h.s1, h.s2⟩
structure RT where
  n : ByteArray
  d : ByteArray
def rtOk (r : RT) : Prop := r.n.size ≤ maxLen ∧ r.d.size ≤ maxLen
end Nm
end Go.Proofs.Ytilolnjbpokdnaa
namespace Go.Proofs.Ytilolnjbpokdnaa
namespace Nt
/-- the base -/
def B : Nat := 1000000000
theorem B_eq : B = 1000000000 := rfl
theorem B_pos : 0 < B := by decide
def val : List Nat → Nat
  | [] => 0
  | x :: l => x + B * val l
def Dg (l : List Nat) : Prop := ∀ x ∈ l, x < B
theorem Dg.nil : Dg [] := fun _ h => by cases h
theorem Dg.cons {x : Nat} {l : List Nat} : Dg (x :: l) ↔ x < B ∧ Dg l := by
  constructor
  · intro h; exact ⟨h x (by simp), fun y hy => h y (by simp [hy])⟩
  · rintro ⟨h, k⟩ y hy
    rcases List.mem_cons.1 hy with rfl | hy
    · exact h
    · exact k y hy
theorem Dg.take {l : List Nat} (h : Dg l) (k : Nat) : Dg (l.take k) := fun x hx => h x (List.mem_of_mem_take hx)
theorem Dg.drop {l : List Nat} (h : Dg l) (k : Nat) : Dg (l.drop k) := fun x hx => h x (List.mem_of_mem_drop hx)
theorem Dg.get {l : List Nat} (h : Dg l) {k : Nat} (hk : k < l.length) : l[k] < B := h _ (List.getElem_mem hk)
theorem Dg.append {l m : List Nat} (h : Dg l) (k : Dg m) : Dg (l ++ m) := fun x hx => by
  rcases List.mem_append.1 hx with hx | hx
  · exact h x hx
  · exact k x hx
theorem Dg.set {l : List Nat} (h : Dg l) (k : Nat) {x : Nat} (hx : x < B) : Dg (l.set k x) := fun y hy => by
  rcases List.mem_or_eq_of_mem_set hy with hy | rfl
  · exact h y hy
  · exact hx
theorem Dg.zeros (n : Nat) : Dg (List.replicate n 0) := fun x hx => by rw [(List.mem_replicate.1 hx).2]; exact B_pos

theorem val_append (l m : List Nat) : val (l ++ m) = val l + B ^ l.length * val m := by
  induction l with
  | nil => simp [val]
  | cons x l ih => simp only [List.cons_append, val, ih, List.length_cons, Nat.pow_succ]; grind
theorem val_lt {l : List Nat} (h : Dg l) : val l < B ^ l.length := by
  induction l with
  | nil => simp [val]
  | cons x l ih =>
    have ⟨h1, h2⟩ := Dg.cons.1 h
    have h3 := ih h2
    simp only [val, List.length_cons, Nat.pow_succ]
    have : B * (val l + 1) ≤ B * B ^ l.length := Nat.mul_le_mul_left _ h3
    rw [Nat.mul_comm (B ^ l.length)]
    rw [Nat.mul_add] at this
    omega
theorem val_zeros (n : Nat) : val (List.replicate n 0) = 0 := by
  induction n with
  | zero => rfl
  | succ n ih => simp [List.replicate_succ, val, ih]
theorem val_take_drop (l : List Nat) (k : Nat) (h : k ≤ l.length) : val l = val (l.take k) + B ^ k * val (l.drop k) := by
  conv => lhs; rw [← List.take_append_drop k l]
  rw [val_append, List.length_take, Nat.min_eq_left h]
theorem val_take_succ (l : List Nat) (k : Nat) (h : k < l.length) : val (l.take (k + 1)) = val (l.take k) + B ^ k * l[k] := by
  rw [List.take_succ_eq_append_getElem h, val_append, List.length_take, Nat.min_eq_left (by omega)]; simp [val]
theorem val_drop (l : List Nat) (k : Nat) (h : k < l.length) : val (l.drop k) = l[k] + B * val (l.drop (k + 1)) := by
  rw [List.drop_eq_getElem_cons h]; rfl
theorem val_set (l : List Nat) (k y : Nat) (h : k < l.length) : val (l.set k y) + B ^ k * l[k] = val l + B ^ k * y := by
  have e : l.set k y = l.take k ++ y :: l.drop (k + 1) := List.set_eq_take_append_cons_drop.trans (by simp [h])
  rw [e, val_append, List.length_take, Nat.min_eq_left (by omega), val_take_drop l k (by omega), val_drop l k h]
  simp only [val]; grind
theorem take_set_succ (l : List Nat) (k y : Nat) (h : k < l.length) : (l.set k y).take (k + 1) = l.take k ++ [y] := by
  rw [List.take_succ_eq_append_getElem (by simpa using h)]; simp [List.take_set_of_le]
theorem val_take_set (l : List Nat) (k y : Nat) (h : k < l.length) : val ((l.set k y).take (k + 1)) = val (l.take k) + B ^ k * y := by
  rw [take_set_succ l k y h, val_append, List.length_take, Nat.min_eq_left (by omega)]; simp [val]
theorem drop_set (l : List Nat) (k y : Nat) (h : k < l.length) : (l.set k y).drop k = y :: l.drop (k + 1) := by
  rw [List.drop_eq_getElem_cons (by simpa using h)]; simp [List.drop_set_of_lt]

/-- the words of a number -/
def digs (n : Nat) : List Nat := if _h : n = 0 then [] else n % B :: digs (n / B)
  termination_by n
  decreasing_by exact Nat.div_lt_self (by omega) (by decide)
theorem digs_zero : digs 0 = [] := by unfold digs; simp
theorem digs_pos {n : Nat} (h : 0 < n) : digs n = n % B :: digs (n / B) := by rw [digs]; rw [dif_neg (by omega)]
theorem val_digs (n : Nat) : val (digs n) = n := by
  induction n using Nat.strongRecOn with
  | ind n ih =>
    by_cases h : n = 0
    · subst h; rw [digs_zero]; rfl
    · rw [digs_pos (by omega)]
      simp only [val]
      rw [ih _ (Nat.div_lt_self (by omega) (by decide))]
      exact Nat.mod_add_div n B
theorem digs_dg (n : Nat) : Dg (digs n) := by
  induction n using Nat.strongRecOn with
  | ind n ih =>
    by_cases h : n = 0
    · subst h; rw [digs_zero]; exact Dg.nil
    · rw [digs_pos (by omega)]
      exact Dg.cons.2 ⟨Nat.mod_lt _ B_pos, ih _ (Nat.div_lt_self (by omega) (by decide))⟩
def Can (l : List Nat) : Prop := ∀ h : l ≠ [], l.getLast h ≠ 0
theorem val_pos_of_can {l : List Nat} (h : Can l) (hl : l ≠ []) : 0 < val l := by
  induction l with
  | nil => exact absurd rfl hl
  | cons x l ih =>
    by_cases hn : l = []
    · subst hn
      have := h (by simp)
      simp at this
      simp only [val]; omega
    · have : 0 < val l := ih (fun h' => by have := h (by simp); rwa [List.getLast_cons h'] at this) hn
      have hB : 0 < B * val l := Nat.mul_pos B_pos this
      simp only [val]; omega
theorem digs_val {l : List Nat} (h : Dg l) (hc : Can l) : digs (val l) = l := by
  induction l with
  | nil => simp [val, digs_zero]
  | cons x l ih =>
    have ⟨h1, h2⟩ := Dg.cons.1 h
    have hp := val_pos_of_can hc (by simp)
    rw [digs_pos hp]
    have e1 : val (x :: l) % B = x := by simp only [val]; rw [Nat.add_mul_mod_self_left, Nat.mod_eq_of_lt h1]
    have e2 : val (x :: l) / B = val l := by simp only [val]; rw [Nat.add_mul_div_left _ _ B_pos, Nat.div_eq_of_lt h1, Nat.zero_add]
    rw [e1, e2]
    by_cases hn : l = []
    · subst hn; simp [val, digs_zero]
    · rw [ih h2 (fun h' => by have := hc (by simp); rwa [List.getLast_cons h'] at this)]
theorem digs_can (n : Nat) : Can (digs n) := by
  induction n using Nat.strongRecOn with
  | ind n ih =>
    by_cases h : n = 0
    · subst h; rw [digs_zero]; exact fun h => absurd rfl h
    · rw [digs_pos (by omega)]
      intro h'
      by_cases hz : n / B = 0
      · have : n < B := by
          rcases Nat.div_eq_zero_iff.1 hz with h | h
          · exact absurd h (by decide)
          · exact h
        simp only [hz, digs_zero, List.getLast_singleton]; rw [Nat.mod_eq_of_lt this]; exact h
      · have hne : digs (n / B) ≠ [] := by rw [digs_pos (Nat.pos_of_ne_zero hz)]; simp
        rw [List.getLast_cons hne]
        exact ih _ (Nat.div_lt_self (by omega) (by decide)) hne
/-- how many words a number has -/
def wlen (n : Nat) : Nat := (digs n).length
theorem wlen_zero : wlen 0 = 0 := by unfold wlen; rw [digs_zero]; rfl
theorem wlen_eq_zero {n : Nat} : wlen n = 0 ↔ n = 0 := by
  constructor
  · intro h
    have := List.length_eq_zero_iff.1 h
    have e := val_digs n
    rw [this] at e; exact e.symm
  · rintro rfl; exact wlen_zero
theorem lt_pow_wlen (n : Nat) : n < B ^ wlen n := by
  have := val_lt (digs_dg n); rwa [val_digs] at this
theorem pow_wlen_le {n : Nat} (h : 0 < n) : B ^ (wlen n - 1) ≤ n := by
  have hne : digs n ≠ [] := by rw [digs_pos h]; simp
  have hl : 0 < (digs n).length := List.length_pos_iff.2 hne
  have e := val_take_drop (digs n) ((digs n).length - 1) (by omega)
  rw [val_digs, val_drop _ _ (by omega)] at e
  have hc := digs_can n hne
  rw [List.getLast_eq_getElem] at hc
  have : 0 < B ^ ((digs n).length - 1) * ((digs n)[(digs n).length - 1] + B * val ((digs n).drop ((digs n).length - 1 + 1))) → True := fun _ => trivial
  have h1 : 1 ≤ (digs n)[(digs n).length - 1] + B * val ((digs n).drop ((digs n).length - 1 + 1)) := by omega
  have h2 := Nat.mul_le_mul_left (B ^ ((digs n).length - 1)) h1
  unfold wlen; omega
theorem wlen_le {n k : Nat} (h : n < B ^ k) : wlen n ≤ k := by
  by_cases h0 : n = 0
  · subst h0; rw [wlen_zero]; omega
  · have h1 := pow_wlen_le (n := n) (by omega)
    have h2 : B ^ (wlen n - 1) < B ^ k := Nat.lt_of_le_of_lt h1 h
    have h3 := (Nat.pow_lt_pow_iff_right (show 1 < B by decide)).1 h2
    omega
theorem wlen_mono {m n : Nat} (h : m ≤ n) : wlen m ≤ wlen n := wlen_le (Nat.lt_of_le_of_lt h (lt_pow_wlen n))
theorem wlen_add (m n : Nat) : wlen (m + n) ≤ max (wlen m) (wlen n) + 1 := by
  apply wlen_le
  have h1 := lt_pow_wlen m
  have h2 := lt_pow_wlen n
  have h3 : B ^ wlen m ≤ B ^ max (wlen m) (wlen n) := Nat.pow_le_pow_right B_pos (Nat.le_max_left _ _)
  have h4 : B ^ wlen n ≤ B ^ max (wlen m) (wlen n) := Nat.pow_le_pow_right B_pos (Nat.le_max_right _ _)
  rw [Nat.pow_succ, B_eq] at *; omega
theorem wlen_mul (m n : Nat) : wlen (m * n) ≤ wlen m + wlen n := by
  apply wlen_le
  rw [Nat.pow_add]
  have h1 := lt_pow_wlen m
  have h2 := lt_pow_wlen n
  exact Nat.mul_lt_mul'' h1 h2
theorem lt_of_wlen {m n : Nat} (h : wlen m < wlen n) : m < n := by
  rcases Nat.lt_or_ge m n with h1 | h1
  · exact h1
  · have := wlen_mono h1; omega
/-- a list of words without zeros at its end is that of its number -/
theorem digs_take {l : List Nat} (h : Dg l) {k : Nat} (hk : k ≤ l.length) (hv : val (l.take k) = val l) (hz : ∀ j (hj : j < l.length), k = j + 1 → l[j] ≠ 0) : digs (val l) = l.take k := by
  rw [← hv]
  apply digs_val (h.take k)
  intro hne
  have hlen : (l.take k).length = k := by rw [List.length_take]; omega
  have hk0 : 0 < k := by have := List.length_pos_iff.2 hne; omega
  rw [List.getLast_eq_getElem]
  simp only [hlen, List.getElem_take]
  exact hz (k - 1) (by omega) (by omega)
theorem val_take_zero {l : List Nat} {k : Nat} (hk : k < l.length) (hv : val (l.take (k + 1)) = val l) (hz : l[k] = 0) : val (l.take k) = val l := by
  rw [← hv, val_take_succ l k hk, hz]; simp
/-- the first word that differs, from the top, decides -/
theorem val_lt_of {l m : List Nat} (hl : Dg l) {j : Nat} (h1 : j < l.length) (h2 : j < m.length) (hd : l.drop (j + 1) = m.drop (j + 1)) (h : l[j] < m[j]) : val l < val m := by
  rw [val_take_drop l j (by omega), val_take_drop m j (by omega), val_drop l j h1, val_drop m j h2, hd]
  have h3 := val_lt (hl.take j)
  rw [List.length_take, Nat.min_eq_left (by omega)] at h3
  generalize B ^ j = P at *
  generalize val (m.drop (j + 1)) = D at *
  have h4 : P * (l[j] + B * D + 1) ≤ P * (m[j] + B * D) := Nat.mul_le_mul_left _ (by omega)
  rw [Nat.mul_add, Nat.mul_one] at h4
  omega
def cmpN (x y : Nat) : Int := if x < y then -1 else if y < x then 1 else 0
theorem cmpN_lt {x y : Nat} (h : x < y) : cmpN x y = -1 := by unfold cmpN; rw [if_pos h]
theorem cmpN_gt {x y : Nat} (h : y < x) : cmpN x y = 1 := by unfold cmpN; rw [if_neg (by omega), if_pos h]
theorem cmpN_eq {x y : Nat} (h : x = y) : cmpN x y = 0 := by subst h; unfold cmpN; simp
theorem cmpN_zero {x y : Nat} : cmpN x y = 0 ↔ x = y := by unfold cmpN; split <;> (try split) <;> omega
theorem cmpN_neg {x y : Nat} : cmpN x y < 0 ↔ x < y := by unfold cmpN; split <;> (try split) <;> omega
theorem digs_inj {x y : Nat} (h : digs x = digs y) : x = y := by rw [← val_digs x, h, val_digs]
/-- a word of a list, or 0 behind its end -/
def wd (l : List Nat) (k : Nat) : Nat := l.getD k 0
theorem wd_get {l : List Nat} {k : Nat} (h : k < l.length) : wd l k = l[k] := by
  unfold wd; rw [List.getD_eq_getElem?_getD, List.getElem?_eq_getElem h]; rfl
theorem wd_past {l : List Nat} {k : Nat} (h : l.length ≤ k) : wd l k = 0 := by
  unfold wd; rw [List.getD_eq_getElem?_getD, List.getElem?_eq_none h]; rfl
theorem val_take_wd (l : List Nat) (k : Nat) : val (l.take (k + 1)) = val (l.take k) + B ^ k * wd l k := by
  by_cases hk : k < l.length
  · rw [val_take_succ l k hk, wd_get hk]
  · rw [List.take_of_length_le (by omega), List.take_of_length_le (by omega), wd_past (by omega)]; simp
/-- a step of the sum -/
theorem add_step {P V A C c x y : Nat} (h : V + P * c = A + C) : (V + P * ((c + x + y) % B)) + P * B * ((c + x + y) / B) = (A + P * x) + (C + P * y) := by
  have e : P * ((c + x + y) % B) + P * B * ((c + x + y) / B) = P * (c + x + y) := by
    rw [Nat.mul_assoc, ← Nat.mul_add, Nat.mod_add_div]
  have e2 : P * (c + x + y) = P * c + P * x + P * y := by rw [Nat.mul_add, Nat.mul_add]
  omega
end Nt
end Go.Proofs.Ytilolnjbpokdnaa
