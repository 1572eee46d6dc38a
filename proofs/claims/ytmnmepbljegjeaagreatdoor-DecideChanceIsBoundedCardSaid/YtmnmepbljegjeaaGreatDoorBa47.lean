/- The closure that Course hands to walk; walk with it. -/
import Derived.Test.YtmnmepbljegjeaaGreatDoorBa33
namespace Go.Proofs.YtmnmepbljegjeaaGreatDoor
open Go.RowKit
namespace Nm
theorem rat_info : (Tryz.prog.info? 23).map (fun i => (i.zero, i.size, i.bytes)) = some (some (.agg #[.string ⟨#[]⟩, .string ⟨#[]⟩]), 2, 32) := by kernel_rfl
def ratL (q : Rat) : List Value := [.string (outN q), .string (outD q)]
/-- the evidence behind each pair -/
def evTrail (ev : Nat → Nat → Rat) : Nat → Nat → List Int → List Rat
  | _, _, [] => []
  | u, v, p :: r => ev (if p = 1 then u + 1 else u) (if p = -1 then v + 1 else v) :: evTrail ev (if p = 1 then u + 1 else u) (if p = -1 then v + 1 else v) r
theorem evTrail_step (ev : Nat → Nat → Rat) (u v k : Nat) {l : List Int} (h : k < l.length) : evTrail ev u v (l.drop k) = ev (if l[k] = 1 then u + 1 else u) (if l[k] = -1 then v + 1 else v) :: evTrail ev (if l[k] = 1 then u + 1 else u) (if l[k] = -1 then v + 1 else v) (l.drop (k + 1)) := by
  rw [List.drop_eq_getElem_cons h]; rfl
theorem dec_of_wlen {n k : Nat} (h : wlen n ≤ k) (hk : 1 ≤ k) : (decS n).length ≤ 10 * k := by
  refine decS_length ?_ (by omega)
  refine Nat.lt_of_lt_of_le (lt_pow_wlen n) (Nat.le_trans (Nat.pow_le_pow_right B_pos h) ?_)
  refine Nat.le_trans (Nat.pow_le_pow_left (show B ≤ 10 ^ 10 by decide) k) ?_
  rw [← Nat.pow_mul]
  exact Nat.le_refl _
theorem ev_fits (d : Int) (bets up down : Nat) (hb1 : 1 ≤ bets) (hb5 : bets ≤ 5) (h1 : 1 ≤ d) (h3 : d ≤ 3) (hud : up + down ≤ 60) : Fits (evQ d bets up down) := by
  obtain ⟨h4, h5⟩ := ev_small d bets up down hb1 hb5 h1 h3 hud
  have e4 := dec_of_wlen h4 (by omega)
  have e5 := dec_of_wlen h5 (by omega)
  exact ⟨by omega, by omega⟩
theorem cell_same {w : World} {p : Addr} {v : Value} (h : w.cell? p = some v) (a : Addr) : (w.setCell p v).cell? a = w.cell? a := by
  by_cases e : p = a
  · subst e; rw [World.cell?_setCell_same _ _ _ h, h]
  · exact World.cell?_setCell_other _ _ _ _ e
def Keeps (w w' : World) : Prop := ∀ a v, w.cell? a = some v → w'.cell? a = some v
theorem Keeps.refl (w : World) : Keeps w w := fun _ _ h => h
theorem Keeps.of_below {w w' : World} (h : Below w.heap.size w w') : Keeps w w' := fun a _ hc => (h.cell (p := a) (World.block_lt_of_cell? w a hc)).trans hc
theorem Keeps.trans {a b c : World} (h : Keeps a b) (k : Keeps b c) : Keeps a c := fun x v hx => k x v (h x v hx)
theorem Sl.keep {w w' : World} {v : Value} {n : Nat} {cs : List Value} (h : Sl w v n cs) (hk : Keeps w w') : Sl w' v n cs := by
  obtain ⟨a, cap, hv, h1, h2, h0, h3⟩ := h
  refine ⟨a, cap, hv, h1, h2, h0, fun i x hx => ?_⟩
  obtain ⟨b, o, ha, hc⟩ := h3 i x hx
  exact ⟨b, o, ha, hk _ _ hc⟩
structure CO (w0 wp w : World) (bB bE bO base : Nat) (A : Array Value) (v : Value) (n : Nat) (cs : List Value) : Prop where
  low : Below w0.heap.size w0 w
  box : Box w bB A
  e : Box w bE #[.int .i64 0]
  fe : Fre w bE
  o : Box w bO #[v]
  fo : Fre w bO
  own : w.ownsRow base 23 2 v n cs
  l1 : w0.heap.size ≤ bE
  l2 : w0.heap.size ≤ bO
  l3 : w0.heap.size ≤ base
  t1 : bB < base
  t2 : bE < base
  t3 : bO < base
  n1 : bB ≠ bE
  n2 : bB ≠ bO
  n3 : bE ≠ bO
  bs : base ≤ w.heap.size
  kp : Keeps wp w
  p1 : wp.heap.size ≤ bO
  p2 : wp.heap.size ≤ base
theorem CO.ext {w0 wp w w' : World} {bB bE bO base : Nat} {A : Array Value} {v : Value} {n : Nat} {cs : List Value} (h : CO w0 wp w bB bE bO base A v n cs) (hb : Below w.heap.size w w') : CO w0 wp w' bB bE bO base A v n cs :=
  ⟨ext_trans h.low hb, h.box.ext hb, h.e.ext hb, h.fe.ext h.e hb, h.o.ext hb, h.fo.ext h.o hb, ownsRow_ext h.own hb, h.l1, h.l2, h.l3, h.t1, h.t2, h.t3, h.n1, h.n2, h.n3, Nat.le_trans h.bs hb.size, h.kp.trans (.of_below hb), h.p1, h.p2⟩
theorem CO.setE {w0 wp w : World} {bB bE bO base : Nat} {A : Array Value} {v : Value} {n : Nat} {cs : List Value} (h : CO w0 wp w bB bE bO base A v n cs) : CO w0 wp (w.setCell ⟨bE, 0, none⟩ (.int .i64 0)) bB bE bO base A v n cs :=
  ⟨h.low.setCell h.l1 _, box_other h.box h.n1 _ _, one_box h.e, fre_set h.fe _ _, box_other h.o h.n3.symm _ _, fre_set h.fo _ _, ownsRow_far h.own h.t2 _, h.l1, h.l2, h.l3, h.t1, h.t2, h.t3, h.n1, h.n2, h.n3, by simpa [World.setCell] using h.bs, h.kp.trans (fun a v hc => (cell_same (h.e.2 0) a).trans hc), h.p1, h.p2⟩
theorem CO.push {w0 wp w w' : World} {bB bE bO base : Nat} {A : Array Value} {v v' : Value} {n n' : Nat} {cs cs' : List Value} (h : CO w0 wp w bB bE bO base A v n cs) (hown : w'.ownsRow base 23 2 v' n' cs') (hg : w.grownBy w' v.ownBlock) : CO w0 wp (w'.setCell ⟨bO, 0, none⟩ v') bB bE bO base A v' n' cs' := by
  have hr : ∀ (x : Nat), x < base → ∀ q, v.ownBlock = some q → q ≠ x := fun x hx q e => by have := (h.own.lt q e).1; omega
  have hlow := h.low.grown hg h.low.size (fun q e => by have := (h.own.lt q e).1; have := h.l3; omega)
  exact ⟨hlow.setCell h.l2 _, box_other (box_grown hg h.box (hr _ h.t1)) h.n2 _ _, box_other (box_grown hg h.e (hr _ h.t2)) h.n3 _ _, fre_set (fre_grown h.fe h.e.1 hg (hr _ h.t2)) _ _, one_box (box_grown hg h.o (hr _ h.t3)), fre_set (fre_grown h.fo h.o.1 hg (hr _ h.t3)) _ _, ownsRow_far hown h.t3 _, h.l1, h.l2, h.l3, h.t1, h.t2, h.t3, h.n1, h.n2, h.n3, Nat.le_trans h.bs (by have := hg.size; simpa [World.setCell] using this), (fun a u hc => by
    have hlt := World.block_lt_of_cell? wp a hc
    have hb : a.block ≠ bO := by have := h.p1; omega
    rw [World.cell?_setCell_other _ _ _ _ (by intro e; exact hb (by rw [← e]))]
    exact hg.cell (h.kp a u hc) (fun e => by have := (h.own.lt _ e.symm).1; have := h.p2; omega)), h.p1, h.p2⟩
theorem ownsRow_ne {w : World} {base e size n : Nat} {v : Value} {xs : List Value} (h : w.ownsRow base e size v n xs) {p : Addr} (hp : ∀ q, v.ownBlock = some q → q ≠ p.block) (u : Value) : (w.setCell p u).ownsRow base e size v n xs := by
  refine h.kept (row := some p.block) ⟨rfl, rfl, rfl, by simp [World.setCell], fun k hk hne => Below.heap_setCell w p u k (fun e => hne (by rw [e]))⟩ ?_
  cases e : v.ownBlock with
  | none => exact .inl rfl
  | some k => exact .inr (fun e' => by cases e'; exact hp _ e rfl)
theorem CO.far {w0 wp w : World} {bB bE bO base : Nat} {A : Array Value} {v : Value} {n : Nat} {cs : List Value} (h : CO w0 wp w bB bE bO base A v n cs) {r : Nat} (j : Nat) (hr : base ≤ r) (hv : ∀ q, v.ownBlock = some q → q ≠ r) (u : Value) : CO w0 wp (w.setCell ⟨r, j, none⟩ u) bB bE bO base A v n cs := by
  have h1 := h.t1
  have h2 := h.t2
  have h3 := h.t3
  have h4 := h.l3
  exact ⟨h.low.setCell (Nat.le_trans h4 hr) _, box_other h.box (by omega) _ _, box_other h.e (by omega) _ _, fre_set h.fe _ _, box_other h.o (by omega) _ _, fre_set h.fo _ _, ownsRow_ne h.own hv _, h.l1, h.l2, h.l3, h.t1, h.t2, h.t3, h.n1, h.n2, h.n3, by simpa [World.setCell] using h.bs, (fun a v' hc => by
    have hlt := World.block_lt_of_cell? wp a hc
    have hb : a.block ≠ r := by have := h.p2; omega
    rw [World.cell?_setCell_other _ _ _ _ (by intro e; exact hb (by rw [← e]))]
    exact h.kp a v' hc), h.p1, h.p2⟩
theorem two_box {w : World} {b : Nat} {x y u0 u1 : Value} (h : Box w b #[x, y]) : Box ((w.setCell ⟨b, 0, none⟩ u0).setCell ⟨b, 1, none⟩ u1) b #[u0, u1] :=
  box_cell (box_cell h (j := 0) (by simp) u0) (j := 1) (by simp) u1
def CloPost (w0 wp : World) (bB bE bO base : Nat) (A : Array Value) (n : Nat) (cs : List Value) (e : Ending) (w' : World) : Prop := e = .returned (.bool true) ∧ ∃ v', CO w0 wp w' bB bE bO base A v' n cs
set_option maxHeartbeats 4000000 in
theorem course_clo (d : Int) (bets : Nat) (q : Rat) (b : Bool) (a1 : Option Addr) (n1 c1 : Nat) (a2 : Option Addr) (n2 c2 : Nat) (w0 wp : World) (bB bE bO base : Nat) (pair : Int) (up down : Nat) (hud : up + down ≤ 60) (w : World) (hB : Bett wp d bets q b a1 n1 c1 a2 n2 c2) (v : Value) (n : Nat) (hn : n ≤ 60) (cs : List Value) (hco : CO w0 wp w bB bE bO base (betA d bets b a1 n1 c1 a2 n2 c2) v n cs) :
    Calls Tryz.prog 115 #[.int .i64 pair, .int .i64 (up : Int), .int .i64 (down : Int), .pointer (some ⟨bB, 0, none⟩), .pointer (some ⟨bE, 0, none⟩), .pointer (some ⟨bO, 0, none⟩)] w (CloPost w0 wp bB bE bO base (betA d bets b a1 n1 c1 a2 n2 c2) (n + 1) (cs ++ ratL (evQ d bets up down))) := by
  have HCO := Lib.hid hco
  have HBT := Lib.hid hB
  have HI := Lib.hid rat_info
  have HF : Hid (outF (evQ d bets up down) = 0) := by
    have : outF (evQ d bets up down) = 0 := by unfold outF; rw [if_pos (ev_fits d bets up down hB.b1 hB.b5 hB.d1 hB.d3 hud)]
    exact this
  have HS := Lib.hid (ev_small d bets up down hB.b1 hB.b5 hB.d1 hB.d3 hud)
  clear hco hB
  go_enter Tryz.func115, Tryz.ntmps115
  go_upto_region 2 with (fail)
  refine wp_box1r fun W hsz hbW hR hRF => ?_
  have HCW := Lib.hid (HCO.out.ext hbW)
  have y0 : W.cell? ⟨bB, 0, none⟩ = some (.int .i64 d) := HCW.out.box.2 0
  have y1 : W.cell? ⟨bB, 1, none⟩ = some (.int .i64 bets) := HCW.out.box.2 1
  have y2 : W.cell? ⟨bB, 2, none⟩ = some (.bool b) := HCW.out.box.2 2
  have y3 : W.cell? ⟨bB, 3, none⟩ = some (.slice a1 n1 c1) := HCW.out.box.2 3
  have y4 : W.cell? ⟨bB, 4, none⟩ = some (.slice a2 n2 c2) := HCW.out.box.2 4
  have hbs : base ≤ w.heap.size := HCO.out.bs
  have HNE : Hid (∀ q, v.ownBlock = some q → q ≠ w.heap.size) := fun q e => by have := (HCO.out.own.lt q e).2; omega
  have hne1 : bE ≠ w.heap.size := by have := HCO.out.t2; omega
  clear hsz HCO hbW
  go_wp2_with fail
  refine (evidence_at d HBT.out.d1 HBT.out.d3 bets up down HBT.out.b1 HBT.out.b5 hud b a1 n1 c1 a2 n2 c2 _).mono ?_
  rintro e w1 ⟨vq, rfl, hq, hb1⟩
  have HC1 := Lib.hid (HCW.out.ext hb1)
  have hR1 := hR.ext hb1
  have hRF1 := hRF.ext hR hb1
  clear y0 y1 y2 y3 y4 HCW hR hRF hb1
  go_wp2_with fail
  refine (ratio_at _ _ _ hq (by have := HS.out; omega) (by have := HS.out; omega)).mono ?_
  rintro e w2 hpost
  unfold OutPost at hpost
  rw [HF.out] at hpost
  obtain ⟨rfl, hb2⟩ := hpost
  have HC2 := Lib.hid (HC1.out.ext hb2)
  have hR2 := hR1.ext hb2
  have hRF2 := hRF1.ext hR1 hb2
  clear HC1 hR1 hRF1 hb2 hq HF
  have r0 : w2.cell? ⟨w.heap.size, 0, none⟩ = some (.string ⟨#[]⟩) := hR2.2 0
  have r1 : w2.cell? ⟨w.heap.size, 1, none⟩ = some (.string ⟨#[]⟩) := hR2.2 1
  have g0 := hRF2 0
  have g1 := hRF2 1
  have s0 : w2.cell? ⟨bE, 0, none⟩ = some (.int .i64 0) := HC2.out.e.2 0
  have s1 := HC2.out.fe 0
  have HC3 := Lib.hid (((HC2.out.far 0 hbs HNE.out (.string (outN (evQ d bets up down)))).far 1 hbs HNE.out (.string (outD (evQ d bets up down)))).setE)
  have hR3 := Lib.hid (box_other (two_box (u0 := .string (outN (evQ d bets up down))) (u1 := .string (outD (evQ d bets up down))) hR2) hne1.symm 0 (.int .i64 0))
  clear hR2 hRF2 HC2
  go_upto_region 3 with (fail)
  generalize (((w2.setCell ⟨w.heap.size, 0, none⟩ (.string (outN (evQ d bets up down)))).setCell ⟨w.heap.size, 1, none⟩ (.string (outD (evQ d bets up down)))).setCell ⟨bE, 0, none⟩ (.int .i64 0)) = w3 at *
  clear r0 r1 g0 g1 s0 s1
  have k0 : w3.cell? ⟨w.heap.size, 0, none⟩ = some (.string (outN (evQ d bets up down))) := hR3.out.2 0
  have k1 : w3.cell? ⟨w.heap.size, 1, none⟩ = some (.string (outD (evQ d bets up down))) := hR3.out.2 1
  have ko : w3.cell? ⟨bO, 0, none⟩ = some v := HC3.out.o.2 0
  have hn2 : n + 1 ≤ maxLen := by unfold maxLen; omega
  have HOB := Lib.hid (HC3.out.ext (ext_alloc w3 (.cells #[.string (outN (evQ d bets up down)), .string (outD (evQ d bets up down))] 23)))
  go_wp2_with (at_builtin; refine wpList_append_sl rfl _ _ 51 rfl base 23 Tryz.underlying51 HI.out rfl (by decide) rfl HOB.out.own rfl (Sl.new _ _ _ 1 1 (by omega) (by decide)) rfl (by intro u hu; simp at hu; rcases hu with rfl | rfl <;> rfl) hn2 (by omega) HOB.out.bs ?_; intro v7 w7 hown7 hg7 _; obtain ⟨g7, k7, rfl⟩ := own_shape hown7 (by omega); have HP := Lib.hid (HOB.out.push hown7 hg7); have HO7 := Lib.hid (box_grown hg7 HOB.out.o (fun q e => by have := (HOB.out.own.lt q e).1; have := HOB.out.t3; omega)); have HF7 := Lib.hid (fre_grown HOB.out.fo HOB.out.o.1 hg7 (fun q e => by have := (HOB.out.own.lt q e).1; have := HOB.out.t3; omega)); have z0 := HO7.out.2 0; have z1 := HF7.out 0; clear hown7 hg7; have x0 := HP.out.e.2 0)
  go_ret
  exact ⟨rfl, _, HP.out⟩
end Nm
end Go.Proofs.YtmnmepbljegjeaaGreatDoor
