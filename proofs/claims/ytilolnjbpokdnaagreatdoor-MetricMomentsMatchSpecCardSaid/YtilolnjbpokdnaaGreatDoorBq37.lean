/- decided and readTest of package decide. readTest of package decide. Plain: the evidence as a number: it starts at 1, is never below 0, and a pair leaves it as it is on average. side of the reference: the capitals of bets on up. Printed by gen_side.py. The closure that Course hands to walk; walk with it. readPlan of package decide. Several evidences: what is right, in plain words. -/
import Derived.Test.YtilolnjbpokdnaaGreatDoorBq26
import Derived.Test.YtilolnjbpokdnaaGreatDoorBq19
namespace Go.Proofs.YtilolnjbpokdnaaGreatDoor
open Go.RowKit
theorem box_cell {w : World} {b : Nat} {A : Array Value} (h : Box w b A) {j : Nat} (hj : j < A.size) (u : Value) : Box (w.setCell ⟨b, j, none⟩ u) b (A.setIfInBounds j u) := by
  refine ⟨by simpa [World.setCell] using h.1, fun i => ?_⟩
  by_cases e : i = j
  · subst e
    rw [World.cell?_setCell_same _ _ _ ((h.2 i).trans (Array.getElem?_eq_getElem hj))]
    simp [hj]
  · rw [World.cell?_setCell_other _ _ _ _ (by intro e'; cases e'; exact e rfl), h.2 i, Array.getElem?_setIfInBounds_ne (fun e' => e e'.symm)]
theorem box_other {w : World} {b b' : Nat} {A : Array Value} (h : Box w b A) (hne : b ≠ b') (j : Nat) (u : Value) : Box (w.setCell ⟨b', j, none⟩ u) b A :=
  ⟨by simpa [World.setCell] using h.1, fun i => by rw [World.cell?_setCell_other _ _ _ _ (by intro e; cases e; exact hne rfl)]; exact h.2 i⟩
namespace Nm
end Nm
end Go.Proofs.YtilolnjbpokdnaaGreatDoor
namespace Go.Proofs.YtilolnjbpokdnaaGreatDoor
open Go.RowKit
namespace Nm
theorem five {w : World} {b : Nat} {x0 x1 x2 x3 x4 : Value} (u0 u1 u2 u3 u4 : Value) (h : Box w b #[x0, x1, x2, x3, x4]) : Box (((((w.setCell ⟨b, 0, none⟩ u0).setCell ⟨b, 1, none⟩ u1).setCell ⟨b, 2, none⟩ u2).setCell ⟨b, 3, none⟩ u3).setCell ⟨b, 4, none⟩ u4) b #[u0, u1, u2, u3, u4] :=
  box_cell (box_cell (box_cell (box_cell (box_cell h (j := 0) (by simp) u0) (j := 1) (by simp) u1) (j := 2) (by simp) u2) (j := 3) (by simp) u3) (j := 4) (by simp) u4
end Nm
end Go.Proofs.YtilolnjbpokdnaaGreatDoor
namespace Go.Proofs.YtilolnjbpokdnaaGreatDoor
namespace Nm

theorem natCast_nonneg (n : Nat) : (0 : Rat) ≤ ((n : Nat) : Rat) := by
  have := (Rat.natCast_le_natCast (a := 0) (b := n)).2 (Nat.zero_le _)
  exact this
end Nm
end Go.Proofs.YtilolnjbpokdnaaGreatDoor
namespace Go.Proofs.YtilolnjbpokdnaaGreatDoor
open Go.RowKit
namespace Nm
end Nm
namespace Nt
open _root_.Go.Proofs.YtilolnjbpokdnaaGreatDoor.Nm (showN showD Fits fits_int Ln AnsPost quoN quoD quoF)
theorem times_is (p q r : Rat) (h : p * q = r) (hp : Fits p) (hq : Fits q) (hs : Fits r) (w : World) (ht : Tab w) : Calls Tryz.prog 51 #[rtV p, rtV q] w (RtP w r) := by subst h; exact mTimesQ p q hp hq hs w ht
theorem plus_is (p q r : Rat) (h : p + q = r) (hp : Fits p) (hq : Fits q) (hs : Fits r) (w : World) (ht : Tab w) : Calls Tryz.prog 50 #[rtV p, rtV q] w (RtP w r) := by subst h; exact mPlusQ p q hp hq hs w ht
end Nt
end Go.Proofs.YtilolnjbpokdnaaGreatDoor
namespace Go.Proofs.YtilolnjbpokdnaaGreatDoor
open Go.RowKit
namespace Nm
def Keeps (w w' : World) : Prop := ∀ a v, w.cell? a = some v → w'.cell? a = some v
theorem Keeps.refl (w : World) : Keeps w w := fun _ _ h => h
theorem Keeps.of_below {w w' : World} (h : Below w.heap.size w w') : Keeps w w' := fun a _ hc => (h.cell (p := a) (World.block_lt_of_cell? w a hc)).trans hc
theorem Keeps.trans {a b c : World} (h : Keeps a b) (k : Keeps b c) : Keeps a c := fun x v hx => k x v (h x v hx)
theorem Sl.keep {w w' : World} {v : Value} {n : Nat} {cs : List Value} (h : Sl w v n cs) (hk : Keeps w w') : Sl w' v n cs := by
  obtain ⟨a, cap, hv, h1, h2, h0, h3⟩ := h
  refine ⟨a, cap, hv, h1, h2, h0, fun i x hx => ?_⟩
  obtain ⟨b, o, ha, hc⟩ := h3 i x hx
  exact ⟨b, o, ha, hk _ _ hc⟩
structure CO (w0 wp w : World) (bB bE bO base : Nat) (A : Array Value) (v : Value) (n : Nat) (cs : List Value) : Prop where
  low : Below w0.heap.size w0 w
  box : Box w bB A
  e : Box w bE #[.int .i64 0]
  fe : Fre w bE
  o : Box w bO #[v]
  fo : Fre w bO
  own : w.ownsRow base 23 2 v n cs
  l1 : w0.heap.size ≤ bE
  l2 : w0.heap.size ≤ bO
  l3 : w0.heap.size ≤ base
  t1 : bB < base
  t2 : bE < base
  t3 : bO < base
  n1 : bB ≠ bE
  n2 : bB ≠ bO
  n3 : bE ≠ bO
  bs : base ≤ w.heap.size
  kp : Keeps wp w
  p1 : wp.heap.size ≤ bO
  p2 : wp.heap.size ≤ base
theorem CO.ext {w0 wp w w' : World} {bB bE bO base : Nat} {A : Array Value} {v : Value} {n : Nat} {cs : List Value} (h : CO w0 wp w bB bE bO base A v n cs) (hb : Below w.heap.size w w') : CO w0 wp w' bB bE bO base A v n cs :=
  ⟨ext_trans h.low hb, h.box.ext hb, h.e.ext hb, h.fe.ext h.e hb, h.o.ext hb, h.fo.ext h.o hb, ownsRow_ext h.own hb, h.l1, h.l2, h.l3, h.t1, h.t2, h.t3, h.n1, h.n2, h.n3, Nat.le_trans h.bs hb.size, h.kp.trans (.of_below hb), h.p1, h.p2⟩
theorem CO.push {w0 wp w w' : World} {bB bE bO base : Nat} {A : Array Value} {v v' : Value} {n n' : Nat} {cs cs' : List Value} (h : CO w0 wp w bB bE bO base A v n cs) (hown : w'.ownsRow base 23 2 v' n' cs') (hg : w.grownBy w' v.ownBlock) : CO w0 wp (w'.setCell ⟨bO, 0, none⟩ v') bB bE bO base A v' n' cs' := by
  have hr : ∀ (x : Nat), x < base → ∀ q, v.ownBlock = some q → q ≠ x := fun x hx q e => by have := (h.own.lt q e).1; omega
  have hlow := h.low.grown hg h.low.size (fun q e => by have := (h.own.lt q e).1; have := h.l3; omega)
  exact ⟨hlow.setCell h.l2 _, box_other (box_grown hg h.box (hr _ h.t1)) h.n2 _ _, box_other (box_grown hg h.e (hr _ h.t2)) h.n3 _ _, fre_set (fre_grown h.fe h.e.1 hg (hr _ h.t2)) _ _, one_box (box_grown hg h.o (hr _ h.t3)), fre_set (fre_grown h.fo h.o.1 hg (hr _ h.t3)) _ _, ownsRow_far hown h.t3 _, h.l1, h.l2, h.l3, h.t1, h.t2, h.t3, h.n1, h.n2, h.n3, Nat.le_trans h.bs (by have := hg.size; simpa [World.setCell] using this), (fun a u hc => by
    have hlt := World.block_lt_of_cell? wp a hc
    have hb : a.block ≠ bO := by have := h.p1; omega
    rw [World.cell?_setCell_other _ _ _ _ (by intro e; exact hb (by rw [← e]))]
    exact hg.cell (h.kp a u hc) (fun e => by have := (h.own.lt _ e.symm).1; have := h.p2; omega)), h.p1, h.p2⟩
theorem ownsRow_ne {w : World} {base e size n : Nat} {v : Value} {xs : List Value} (h : w.ownsRow base e size v n xs) {p : Addr} (hp : ∀ q, v.ownBlock = some q → q ≠ p.block) (u : Value) : (w.setCell p u).ownsRow base e size v n xs := by
  refine h.kept (row := some p.block) ⟨rfl, rfl, rfl, by simp [World.setCell], fun k hk hne => Below.heap_setCell w p u k (fun e => hne (by rw [e]))⟩ ?_
  cases e : v.ownBlock with
  | none => exact .inl rfl
  | some k => exact .inr (fun e' => by cases e'; exact hp _ e rfl)
theorem CO.far {w0 wp w : World} {bB bE bO base : Nat} {A : Array Value} {v : Value} {n : Nat} {cs : List Value} (h : CO w0 wp w bB bE bO base A v n cs) {r : Nat} (j : Nat) (hr : base ≤ r) (hv : ∀ q, v.ownBlock = some q → q ≠ r) (u : Value) : CO w0 wp (w.setCell ⟨r, j, none⟩ u) bB bE bO base A v n cs := by
  have h1 := h.t1
  have h2 := h.t2
  have h3 := h.t3
  have h4 := h.l3
  exact ⟨h.low.setCell (Nat.le_trans h4 hr) _, box_other h.box (by omega) _ _, box_other h.e (by omega) _ _, fre_set h.fe _ _, box_other h.o (by omega) _ _, fre_set h.fo _ _, ownsRow_ne h.own hv _, h.l1, h.l2, h.l3, h.t1, h.t2, h.t3, h.n1, h.n2, h.n3, by simpa [World.setCell] using h.bs, (fun a v' hc => by
    have hlt := World.block_lt_of_cell? wp a hc
    have hb : a.block ≠ r := by have := h.p2; omega
    rw [World.cell?_setCell_other _ _ _ _ (by intro e; exact hb (by rw [← e]))]
    exact h.kp a v' hc), h.p1, h.p2⟩
end Nm
end Go.Proofs.YtilolnjbpokdnaaGreatDoor
namespace Go.Proofs.YtilolnjbpokdnaaGreatDoor
open Go.RowKit
theorem Sl.keepQ {Q : Value → Prop} {w w' : World} {v r : Value} {n : Nat} {cs : List Value} (h : Sl w v n cs) (hq : ∀ u ∈ cs, ¬ Q u) (hR : RowQ Q w r) (hg : w.grownBy w' r.ownBlock) : Sl w' v n cs := by
  obtain ⟨a, cap, hv, h1, h2, h0, h3⟩ := h
  refine ⟨a, cap, hv, h1, h2, h0, fun i x hx => ?_⟩
  obtain ⟨b, o, ha, hc⟩ := h3 i x hx
  refine ⟨b, o, ha, hg.cell hc (fun e => ?_)⟩
  exact hq x (List.mem_of_getElem? hx) (hR b e.symm _ _ hc)
namespace Nm
def NW (u : Value) : Prop := isWord u = false
theorem N.keepQ {w w' : World} {v r : Value} {n : Nat} (h : N w v n) (hR : RowQ NW w r) (hg : w.grownBy w' r.ownBlock) : N w' v n := by
  refine Sl.keepQ h (fun u hu hw => ?_) hR hg
  simp only [wcs, List.mem_map] at hu
  obtain ⟨c, _, rfl⟩ := hu
  cases hw
theorem XR.keepQ {w w' : World} {v r : Value} {q : Rat} (h : XR w v q) (hR : RowQ NW w r) (hg : w.grownBy w' r.ownBlock) : XR w' v q := by
  obtain ⟨v1, v2, h0, h1, h2⟩ := h; exact ⟨v1, v2, h0, h1.keepQ hR hg, h2.keepQ hR hg⟩
structure BV where
  b : Bool
  a1 : Option Addr
  n1 : Nat
  c1 : Nat
  a2 : Option Addr
  n2 : Nat
  c2 : Nat
def bvL (K : Int) (v : BV) : List Value := [.int .i64 2, .int .i64 K, .bool v.b, .slice v.a1 v.n1 v.c1, .slice v.a2 v.n2 v.c2]
def BvOk (w : World) (K : Nat) (q : Rat) (v : BV) : Prop := Bett w 2 K q v.b v.a1 v.n1 v.c1 v.a2 v.n2 v.c2
theorem BvOk.ext {w w' : World} {K : Nat} {q : Rat} {v : BV} (h : BvOk w K q v) (hb : Below w.heap.size w w') : BvOk w' K q v := Bett.ext h hb
theorem BvOk.keepQ {w w' : World} {K : Nat} {q : Rat} {v : BV} {r : Value} (h : BvOk w K q v) (hR : RowQ NW w r) (hg : w.grownBy w' r.ownBlock) : BvOk w' K q v :=
  ⟨h.d1, h.d3, h.b1, h.b5, XR.keepQ h.need hR hg, h.s1, h.s2⟩
structure RT where
  n : ByteArray
  d : ByteArray
structure PL (w wr : World) (planA : Array Value) (bM : Nat) (mA : Array Value) (qm : Rat) (base K : Nat) (gs : List RT) (v : Value) (k : Nat) (bvs : List BV) : Prop where
  low : Below w.heap.size w wr
  plan : Box wr w.heap.size planA
  res : Box wr (w.heap.size + 1) (betA 0 0 false none 0 0 none 0 0)
  fre : Fre wr (w.heap.size + 1)
  mis : Box wr bM mA
  xr : XR wr (.agg mA) qm
  own : wr.ownsRow base 95 5 v k (bvs.flatMap (bvL K))
  q : RowQ NW wr v
  len : bvs.length = k
  ok : ∀ (i : Nat) bv r, bvs[i]? = some bv → gs[i]? = some r → BvOk wr K (rQ r.n r.d)⁻¹ bv
  bs : base ≤ wr.heap.size
  lw : w.heap.size + 1 < base
  lm : bM < base
theorem PL.ext {w wr w' : World} {planA : Array Value} {bM : Nat} {mA : Array Value} {qm : Rat} {base K : Nat} {gs : List RT} {v : Value} {k : Nat} {bvs : List BV} (h : PL w wr planA bM mA qm base K gs v k bvs) (hb : Below wr.heap.size wr w') : PL w w' planA bM mA qm base K gs v k bvs :=
  ⟨ext_trans h.low hb, h.plan.ext hb, h.res.ext hb, h.fre.ext h.res hb, h.mis.ext hb, h.xr.ext hb, ownsRow_ext h.own hb, h.q.ext h.own hb, h.len, fun i bv r h1 h2 => (h.ok i bv r h1 h2).ext hb, Nat.le_trans h.bs hb.size, h.lw, h.lm⟩
theorem PL.push {w wr w' : World} {planA : Array Value} {bM : Nat} {mA : Array Value} {qm : Rat} {base K : Nat} {gs : List RT} {v v' : Value} {k : Nat} {bvs : List BV} (h : PL w wr planA bM mA qm base K gs v k bvs) (bv : BV) (hg : wr.grownBy w' v.ownBlock)
    (hown : w'.ownsRow base 95 5 v' (k + 1) (bvs.flatMap (bvL K) ++ bvL K bv)) (hq : RowQ NW w' v') {r : RT} (hr : gs[k]? = some r) (hbv : BvOk wr K (rQ r.n r.d)⁻¹ bv) : PL w w' planA bM mA qm base K gs v' (k + 1) (bvs ++ [bv]) := by
  have lt : ∀ q, v.ownBlock = some q → base ≤ q := fun q e => (h.own.lt q e).1
  have h1 := h.lw
  have h2 := h.lm
  have hne : ∀ x, x < base → ∀ q, v.ownBlock = some q → q ≠ x := fun x hx q e => by have := lt q e; omega
  refine ⟨h.low.grown hg h.low.size (fun q e => by have := lt q e; omega), box_grown hg h.plan (hne _ (by omega)), box_grown hg h.res (hne _ (by omega)), fre_grown h.fre h.res.1 hg (hne _ (by omega)), box_grown hg h.mis (hne _ h2), h.xr.keepQ h.q hg, ?_, hq, by rw [List.length_append, h.len]; rfl, ?_, Nat.le_trans h.bs hg.size, h1, h2⟩
  · rw [List.flatMap_append]; simpa using hown
  · intro i bv' r' e1 e2
    rcases Nat.lt_or_ge i k with hi | hi
    · rw [List.getElem?_append_left (by rw [h.len]; exact hi)] at e1
      exact (h.ok i bv' r' e1 e2).keepQ h.q hg
    · rw [List.getElem?_append_right (by rw [h.len]; exact hi), h.len] at e1
      have hi' : i - k = 0 := by
        rcases Nat.eq_zero_or_pos (i - k) with h0 | h0
        · exact h0
        · rw [List.getElem?_eq_none (by simp; omega)] at e1; cases e1
      rw [hi'] at e1
      obtain rfl : bv = bv' := by simpa using e1
      have hik : i = k := by omega
      subst hik
      rw [hr] at e2
      cases e2
      exact hbv.keepQ h.q hg
end Nm
end Go.Proofs.YtilolnjbpokdnaaGreatDoor
namespace Go.Proofs.YtilolnjbpokdnaaGreatDoor
open Go.RowKit
namespace Nm
theorem Ln.small {a b : Nat} {q : Rat} (h : Ln a b q) (ha : a ≤ 5000) (hb : b ≤ 5000) : wlen q.num.natAbs ≤ 6000 ∧ wlen q.den ≤ 6000 := by
  have k1 : 10 ^ a < 10 ^ (a + 1) := Nat.pow_lt_pow_right (by decide) (Nat.lt_succ_self a)
  have k2 : 10 ^ b < 10 ^ (b + 1) := Nat.pow_lt_pow_right (by decide) (Nat.lt_succ_self b)
  have h1 := wlen_dec (Nat.lt_of_le_of_lt h.1 k1)
  have h2 := wlen_dec (Nat.lt_of_le_of_lt h.2 k2)
  omega
def XIf3 (w : World) (f : Int) (v : Value) (q : Rat) : Prop := f = 0 → XR w v q
theorem XIf3.ext {w w' : World} {f : Int} {v : Value} {q : Rat} (h : XIf3 w f v q) (hb : Below w.heap.size w w') : XIf3 w' f v q := fun h0 => (h h0).ext hb
end Nm
end Go.Proofs.YtilolnjbpokdnaaGreatDoor
