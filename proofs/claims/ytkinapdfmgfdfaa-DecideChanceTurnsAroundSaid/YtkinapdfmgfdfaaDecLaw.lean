/- Plain: what more trials do to pairs, decisions and evidence. (Several texts in one: Course, Course2, Course3, DecLaw.) -/
import Derived.Test.YtkinapdfmgfdfaaTest2
namespace Go.Proofs.Ytkinapdfmgfdfaa
open Go.RowKit
namespace Nm
theorem rat_info : (Try.prog.info? 23).map (fun i => (i.zero, i.size, i.bytes)) = some (some (.agg #[.string ⟨#[]⟩, .string ⟨#[]⟩]), 2, 32) := by kernel_rfl
def ratL (q : Rat) : List Value := [.string (outN q), .string (outD q)]
/-- the evidence behind each pair -/
def evTrail (ev : Nat → Nat → Rat) : Nat → Nat → List Int → List Rat
  | _, _, [] => []
  | u, v, p :: r => ev (if p = 1 then u + 1 else u) (if p = -1 then v + 1 else v) :: evTrail ev (if p = 1 then u + 1 else u) (if p = -1 then v + 1 else v) r
theorem evTrail_step (ev : Nat → Nat → Rat) (u v k : Nat) {l : List Int} (h : k < l.length) : evTrail ev u v (l.drop k) = ev (if l[k] = 1 then u + 1 else u) (if l[k] = -1 then v + 1 else v) :: evTrail ev (if l[k] = 1 then u + 1 else u) (if l[k] = -1 then v + 1 else v) (l.drop (k + 1)) := by
  rw [List.drop_eq_getElem_cons h]; rfl
theorem dec_of_wlen {n k : Nat} (h : wlen n ≤ k) (hk : 1 ≤ k) : (decS n).length ≤ 10 * k := by
  refine decS_length ?_ (by omega)
  refine Nat.lt_of_lt_of_le (lt_pow_wlen n) (Nat.le_trans (Nat.pow_le_pow_right B_pos h) ?_)
  refine Nat.le_trans (Nat.pow_le_pow_left (show B ≤ 10 ^ 10 by decide) k) ?_
  rw [← Nat.pow_mul]
  exact Nat.le_refl _
theorem ev_fits (d : Int) (bets up down : Nat) (hb1 : 1 ≤ bets) (hb5 : bets ≤ 5) (h1 : 1 ≤ d) (h3 : d ≤ 3) (hud : up + down ≤ 60) : Fits (evQ d bets up down) := by
  obtain ⟨h4, h5⟩ := ev_small d bets up down hb1 hb5 h1 h3 hud
  have e4 := dec_of_wlen h4 (by omega)
  have e5 := dec_of_wlen h5 (by omega)
  exact ⟨by omega, by omega⟩
theorem cell_same {w : World} {p : Addr} {v : Value} (h : w.cell? p = some v) (a : Addr) : (w.setCell p v).cell? a = w.cell? a := by
  by_cases e : p = a
  · subst e; rw [World.cell?_setCell_same _ _ _ h, h]
  · exact World.cell?_setCell_other _ _ _ _ e
def Keeps (w w' : World) : Prop := ∀ a v, w.cell? a = some v → w'.cell? a = some v
theorem Keeps.refl (w : World) : Keeps w w := fun _ _ h => h
theorem Keeps.of_below {w w' : World} (h : Below w.heap.size w w') : Keeps w w' := fun a _ hc => (h.cell (p := a) (World.block_lt_of_cell? w a hc)).trans hc
theorem Keeps.trans {a b c : World} (h : Keeps a b) (k : Keeps b c) : Keeps a c := fun x v hx => k x v (h x v hx)
theorem Sl.keep {w w' : World} {v : Value} {n : Nat} {cs : List Value} (h : Sl w v n cs) (hk : Keeps w w') : Sl w' v n cs := by
  obtain ⟨a, cap, hv, h1, h2, h0, h3⟩ := h
  refine ⟨a, cap, hv, h1, h2, h0, fun i x hx => ?_⟩
  obtain ⟨b, o, ha, hc⟩ := h3 i x hx
  exact ⟨b, o, ha, hk _ _ hc⟩
structure CO (w0 wp w : World) (bB bE bO base : Nat) (A : Array Value) (v : Value) (n : Nat) (cs : List Value) : Prop where
  low : Below w0.heap.size w0 w
  box : Box w bB A
  e : Box w bE #[.int .i64 0]
  fe : Fre w bE
  o : Box w bO #[v]
  fo : Fre w bO
  own : w.ownsRow base 23 2 v n cs
  l1 : w0.heap.size ≤ bE
  l2 : w0.heap.size ≤ bO
  l3 : w0.heap.size ≤ base
  t1 : bB < base
  t2 : bE < base
  t3 : bO < base
  n1 : bB ≠ bE
  n2 : bB ≠ bO
  n3 : bE ≠ bO
  bs : base ≤ w.heap.size
  kp : Keeps wp w
  p1 : wp.heap.size ≤ bO
  p2 : wp.heap.size ≤ base
theorem CO.ext {w0 wp w w' : World} {bB bE bO base : Nat} {A : Array Value} {v : Value} {n : Nat} {cs : List Value} (h : CO w0 wp w bB bE bO base A v n cs) (hb : Below w.heap.size w w') : CO w0 wp w' bB bE bO base A v n cs :=
  ⟨ext_trans h.low hb, h.box.ext hb, h.e.ext hb, h.fe.ext h.e hb, h.o.ext hb, h.fo.ext h.o hb, ownsRow_ext h.own hb, h.l1, h.l2, h.l3, h.t1, h.t2, h.t3, h.n1, h.n2, h.n3, Nat.le_trans h.bs hb.size, h.kp.trans (.of_below hb), h.p1, h.p2⟩
theorem CO.setE {w0 wp w : World} {bB bE bO base : Nat} {A : Array Value} {v : Value} {n : Nat} {cs : List Value} (h : CO w0 wp w bB bE bO base A v n cs) : CO w0 wp (w.setCell ⟨bE, 0, none⟩ (.int .i64 0)) bB bE bO base A v n cs :=
  ⟨h.low.setCell h.l1 _, box_other h.box h.n1 _ _, one_box h.e, fre_set h.fe _ _, box_other h.o h.n3.symm _ _, fre_set h.fo _ _, ownsRow_far h.own h.t2 _, h.l1, h.l2, h.l3, h.t1, h.t2, h.t3, h.n1, h.n2, h.n3, by simpa [World.setCell] using h.bs, h.kp.trans (fun a v hc => (cell_same (h.e.2 0) a).trans hc), h.p1, h.p2⟩
theorem CO.push {w0 wp w w' : World} {bB bE bO base : Nat} {A : Array Value} {v v' : Value} {n n' : Nat} {cs cs' : List Value} (h : CO w0 wp w bB bE bO base A v n cs) (hown : w'.ownsRow base 23 2 v' n' cs') (hg : w.grownBy w' v.ownBlock) : CO w0 wp (w'.setCell ⟨bO, 0, none⟩ v') bB bE bO base A v' n' cs' := by
  have hr : ∀ (x : Nat), x < base → ∀ q, v.ownBlock = some q → q ≠ x := fun x hx q e => by have := (h.own.lt q e).1; omega
  have hlow := h.low.grown hg h.low.size (fun q e => by have := (h.own.lt q e).1; have := h.l3; omega)
  exact ⟨hlow.setCell h.l2 _, box_other (box_grown hg h.box (hr _ h.t1)) h.n2 _ _, box_other (box_grown hg h.e (hr _ h.t2)) h.n3 _ _, fre_set (fre_grown h.fe h.e.1 hg (hr _ h.t2)) _ _, one_box (box_grown hg h.o (hr _ h.t3)), fre_set (fre_grown h.fo h.o.1 hg (hr _ h.t3)) _ _, ownsRow_far hown h.t3 _, h.l1, h.l2, h.l3, h.t1, h.t2, h.t3, h.n1, h.n2, h.n3, Nat.le_trans h.bs (by have := hg.size; simpa [World.setCell] using this), (fun a u hc => by
    have hlt := World.block_lt_of_cell? wp a hc
    have hb : a.block ≠ bO := by have := h.p1; omega
    rw [World.cell?_setCell_other _ _ _ _ (by intro e; exact hb (by rw [← e]))]
    exact hg.cell (h.kp a u hc) (fun e => by have := (h.own.lt _ e.symm).1; have := h.p2; omega)), h.p1, h.p2⟩
theorem ownsRow_ne {w : World} {base e size n : Nat} {v : Value} {xs : List Value} (h : w.ownsRow base e size v n xs) {p : Addr} (hp : ∀ q, v.ownBlock = some q → q ≠ p.block) (u : Value) : (w.setCell p u).ownsRow base e size v n xs := by
  refine h.kept (row := some p.block) ⟨rfl, rfl, rfl, by simp [World.setCell], fun k hk hne => Below.heap_setCell w p u k (fun e => hne (by rw [e]))⟩ ?_
  cases e : v.ownBlock with
  | none => exact .inl rfl
  | some k => exact .inr (fun e' => by cases e'; exact hp _ e rfl)
theorem CO.far {w0 wp w : World} {bB bE bO base : Nat} {A : Array Value} {v : Value} {n : Nat} {cs : List Value} (h : CO w0 wp w bB bE bO base A v n cs) {r : Nat} (j : Nat) (hr : base ≤ r) (hv : ∀ q, v.ownBlock = some q → q ≠ r) (u : Value) : CO w0 wp (w.setCell ⟨r, j, none⟩ u) bB bE bO base A v n cs := by
  have h1 := h.t1
  have h2 := h.t2
  have h3 := h.t3
  have h4 := h.l3
  exact ⟨h.low.setCell (Nat.le_trans h4 hr) _, box_other h.box (by omega) _ _, box_other h.e (by omega) _ _, fre_set h.fe _ _, box_other h.o (by omega) _ _, fre_set h.fo _ _, ownsRow_ne h.own hv _, h.l1, h.l2, h.l3, h.t1, h.t2, h.t3, h.n1, h.n2, h.n3, by simpa [World.setCell] using h.bs, (fun a v' hc => by
    have hlt := World.block_lt_of_cell? wp a hc
    have hb : a.block ≠ r := by have := h.p2; omega
    rw [World.cell?_setCell_other _ _ _ _ (by intro e; exact hb (by rw [← e]))]
    exact h.kp a v' hc), h.p1, h.p2⟩
theorem two_box {w : World} {b : Nat} {x y u0 u1 : Value} (h : Box w b #[x, y]) : Box ((w.setCell ⟨b, 0, none⟩ u0).setCell ⟨b, 1, none⟩ u1) b #[u0, u1] :=
  box_cell (box_cell h (j := 0) (by simp) u0) (j := 1) (by simp) u1
def CloPost (w0 wp : World) (bB bE bO base : Nat) (A : Array Value) (n : Nat) (cs : List Value) (e : Ending) (w' : World) : Prop := e = .returned (.bool true) ∧ ∃ v', CO w0 wp w' bB bE bO base A v' n cs
set_option maxHeartbeats 4000000 in
theorem course_clo (d : Int) (bets : Nat) (q : Rat) (b : Bool) (a1 : Option Addr) (n1 c1 : Nat) (a2 : Option Addr) (n2 c2 : Nat) (w0 wp : World) (bB bE bO base : Nat) (pair : Int) (up down : Nat) (hud : up + down ≤ 60) (w : World) (hB : Bett wp d bets q b a1 n1 c1 a2 n2 c2) (v : Value) (n : Nat) (hn : n ≤ 60) (cs : List Value) (hco : CO w0 wp w bB bE bO base (betA d bets b a1 n1 c1 a2 n2 c2) v n cs) :
    Calls Try.prog 23 #[.int .i64 pair, .int .i64 (up : Int), .int .i64 (down : Int), .pointer (some ⟨bB, 0, none⟩), .pointer (some ⟨bE, 0, none⟩), .pointer (some ⟨bO, 0, none⟩)] w (CloPost w0 wp bB bE bO base (betA d bets b a1 n1 c1 a2 n2 c2) (n + 1) (cs ++ ratL (evQ d bets up down))) := by
  have HCO := Lib.hid hco
  have HBT := Lib.hid hB
  have HI := Lib.hid rat_info
  have HF : Hid (outF (evQ d bets up down) = 0) := by
    have : outF (evQ d bets up down) = 0 := by unfold outF; rw [if_pos (ev_fits d bets up down hB.b1 hB.b5 hB.d1 hB.d3 hud)]
    exact this
  have HS := Lib.hid (ev_small d bets up down hB.b1 hB.b5 hB.d1 hB.d3 hud)
  clear hco hB
  go_enter Try.func23, Try.ntmps23
  go_upto_region 2 with (fail)
  refine wp_box1r fun W hsz hbW hR hRF => ?_
  have HCW := Lib.hid (HCO.out.ext hbW)
  have y0 : W.cell? ⟨bB, 0, none⟩ = some (.int .i64 d) := HCW.out.box.2 0
  have y1 : W.cell? ⟨bB, 1, none⟩ = some (.int .i64 bets) := HCW.out.box.2 1
  have y2 : W.cell? ⟨bB, 2, none⟩ = some (.bool b) := HCW.out.box.2 2
  have y3 : W.cell? ⟨bB, 3, none⟩ = some (.slice a1 n1 c1) := HCW.out.box.2 3
  have y4 : W.cell? ⟨bB, 4, none⟩ = some (.slice a2 n2 c2) := HCW.out.box.2 4
  have hbs : base ≤ w.heap.size := HCO.out.bs
  have HNE : Hid (∀ q, v.ownBlock = some q → q ≠ w.heap.size) := fun q e => by have := (HCO.out.own.lt q e).2; omega
  have hne1 : bE ≠ w.heap.size := by have := HCO.out.t2; omega
  clear hsz HCO hbW
  go_wp2_with fail
  refine (evidence_at d HBT.out.d1 HBT.out.d3 bets up down HBT.out.b1 HBT.out.b5 hud b a1 n1 c1 a2 n2 c2 _).mono ?_
  rintro e w1 ⟨vq, rfl, hq, hb1⟩
  have HC1 := Lib.hid (HCW.out.ext hb1)
  have hR1 := hR.ext hb1
  have hRF1 := hRF.ext hR hb1
  clear y0 y1 y2 y3 y4 HCW hR hRF hb1
  go_wp2_with fail
  refine (ratio_at _ _ _ hq (by have := HS.out; omega) (by have := HS.out; omega)).mono ?_
  rintro e w2 hpost
  unfold OutPost at hpost
  rw [HF.out] at hpost
  obtain ⟨rfl, hb2⟩ := hpost
  have HC2 := Lib.hid (HC1.out.ext hb2)
  have hR2 := hR1.ext hb2
  have hRF2 := hRF1.ext hR1 hb2
  clear HC1 hR1 hRF1 hb2 hq HF
  have r0 : w2.cell? ⟨w.heap.size, 0, none⟩ = some (.string ⟨#[]⟩) := hR2.2 0
  have r1 : w2.cell? ⟨w.heap.size, 1, none⟩ = some (.string ⟨#[]⟩) := hR2.2 1
  have g0 := hRF2 0
  have g1 := hRF2 1
  have s0 : w2.cell? ⟨bE, 0, none⟩ = some (.int .i64 0) := HC2.out.e.2 0
  have s1 := HC2.out.fe 0
  have HC3 := Lib.hid (((HC2.out.far 0 hbs HNE.out (.string (outN (evQ d bets up down)))).far 1 hbs HNE.out (.string (outD (evQ d bets up down)))).setE)
  have hR3 := Lib.hid (box_other (two_box (u0 := .string (outN (evQ d bets up down))) (u1 := .string (outD (evQ d bets up down))) hR2) hne1.symm 0 (.int .i64 0))
  clear hR2 hRF2 HC2
  go_upto_region 3 with (fail)
  generalize (((w2.setCell ⟨w.heap.size, 0, none⟩ (.string (outN (evQ d bets up down)))).setCell ⟨w.heap.size, 1, none⟩ (.string (outD (evQ d bets up down)))).setCell ⟨bE, 0, none⟩ (.int .i64 0)) = w3 at *
  clear r0 r1 g0 g1 s0 s1
  have k0 : w3.cell? ⟨w.heap.size, 0, none⟩ = some (.string (outN (evQ d bets up down))) := hR3.out.2 0
  have k1 : w3.cell? ⟨w.heap.size, 1, none⟩ = some (.string (outD (evQ d bets up down))) := hR3.out.2 1
  have ko : w3.cell? ⟨bO, 0, none⟩ = some v := HC3.out.o.2 0
  have hn2 : n + 1 ≤ maxLen := by unfold maxLen; omega
  have HOB := Lib.hid (HC3.out.ext (ext_alloc w3 (.cells #[.string (outN (evQ d bets up down)), .string (outD (evQ d bets up down))] 23)))
  go_wp2_with (at_builtin; refine wpList_append_sl rfl _ _ 24 rfl base 23 Try.underlying24 HI.out rfl (by decide) rfl HOB.out.own rfl (Sl.new _ _ _ 1 1 (by omega) (by decide)) rfl (by intro u hu; simp at hu; rcases hu with rfl | rfl <;> rfl) hn2 (by omega) HOB.out.bs ?_; intro v7 w7 hown7 hg7 _; obtain ⟨g7, k7, rfl⟩ := own_shape hown7 (by omega); have HP := Lib.hid (HOB.out.push hown7 hg7); have HO7 := Lib.hid (box_grown hg7 HOB.out.o (fun q e => by have := (HOB.out.own.lt q e).1; have := HOB.out.t3; omega)); have HF7 := Lib.hid (fre_grown HOB.out.fo HOB.out.o.1 hg7 (fun q e => by have := (HOB.out.own.lt q e).1; have := HOB.out.t3; omega)); have z0 := HO7.out.2 0; have z1 := HF7.out 0; clear hown7 hg7; have x0 := HP.out.e.2 0)
  go_ret
  exact ⟨rfl, _, HP.out⟩
end Nm
end Go.Proofs.Ytkinapdfmgfdfaa
namespace Go.Proofs.Ytkinapdfmgfdfaa
open Go.RowKit
namespace Nm
def WalkPost (w0 wp : World) (bB bE bO base : Nat) (A : Array Value) (n : Nat) (cs : List Value) (e : Ending) (w' : World) : Prop := e = .returned (.tuple #[]) ∧ ∃ v', CO w0 wp w' bB bE bO base A v' n cs
set_option maxHeartbeats 4000000 in
theorem walk_course (d : Int) (bets : Nat) (q : Rat) (b : Bool) (a1 : Option Addr) (n1 c1 : Nat) (a2 : Option Addr) (n2 c2 : Nat) (w0 wp : World) (bB bE bO base : Nat) (l : List Int) (a : Option Addr) (c : Nat) (w : World) (hB : Bett wp d bets q b a1 n1 c1 a2 n2 c2) (hs : Sl wp (.slice a l.length c) l.length (ics l)) (hl : l.length ≤ 60) (hco : CO w0 wp w bB bE bO base (betA d bets b a1 n1 c1 a2 n2 c2) (.slice none 0 0) 0 []) :
    Calls Try.prog 22 #[.slice a l.length c, .func (.func 23) #[] #[.pointer (some ⟨bB, 0, none⟩), .pointer (some ⟨bE, 0, none⟩), .pointer (some ⟨bO, 0, none⟩)]] w (WalkPost w0 wp bB bE bO base (betA d bets b a1 n1 c1 a2 n2 c2) l.length ((evTrail (evQ d bets) 0 0 l).flatMap ratL)) := by
  have HCO := Lib.hid hco
  have HBT := Lib.hid hB
  have HS := Lib.hid hs
  clear hco hB hs
  go_enter Try.func22, Try.ntmps22
  go_wp2
  go_loopw [4, 5, 6, 7, 10] (fun x y _ _ i wr => ∃ (k u v : Nat) (pre : List Rat) (vo : Value), k ≤ l.length ∧ u + v ≤ k ∧ i = .int .i64 k ∧ x = .int .i64 u ∧ y = .int .i64 v ∧ Hid (evTrail (evQ d bets) 0 0 l = pre ++ evTrail (evQ d bets) u v (l.drop k)) ∧ Hid (CO w0 wp wr bB bE bO base (betA d bets b a1 n1 c1 a2 n2 c2) vo k (pre.flatMap ratL))) (fun _ _ _ _ i _ => l.length - (intOf i).toNat)
  case atStart => exact ⟨0, 0, 0, [], _, by omega, by omega, rfl, rfl, rfl, rfl, HCO⟩
  case round =>
    obtain ⟨k, u, v, pre, vo, hk, huv, rfl, rfl, rfl, HK, HCO⟩ := hrel
    by_cases hlt : k < l.length
    · have HST : Hid (evTrail (evQ d bets) 0 0 l = pre ++ (evQ d bets (if l[k] = 1 then u + 1 else u) (if l[k] = -1 then v + 1 else v) :: evTrail (evQ d bets) (if l[k] = 1 then u + 1 else u) (if l[k] = -1 then v + 1 else v) (l.drop (k + 1)))) := by
        have := HK.out; rw [evTrail_step _ _ _ _ hlt] at this; exact this
      obtain ⟨p, o, rfl, hc⟩ := sl_addr (Sl.keep HS.out HCO.out.kp) (ics_get hlt)
      generalize l[k] = x at hc HST
      by_cases hx1 : x = 1
      · subst hx1
        rw [show (if (1 : Int) = 1 then u + 1 else u) = u + 1 by simp, show (if (1 : Int) = -1 then v + 1 else v) = v by simp] at HST
        have HN : Hid (evTrail (evQ d bets) 0 0 l = (pre ++ [evQ d bets (u + 1) v]) ++ evTrail (evQ d bets) (u + 1) v (l.drop (k + 1))) := by
          have := HST.out
          exact (by rw [this, List.append_assoc]; rfl : evTrail (evQ d bets) 0 0 l = (pre ++ [evQ d bets (u + 1) v]) ++ evTrail (evQ d bets) (u + 1) v (l.drop (k + 1)))
        go_wp2_with fail
        refine (course_clo d bets q b a1 n1 c1 a2 n2 c2 w0 wp bB bE bO base ((k : Int) + 1) (u + 1) v (by omega) wr HBT.out vo k (by omega) _ HCO.out).mono ?_
        rintro e w2 ⟨rfl, v', hco⟩
        have HC2 : Hid (CO w0 wp w2 bB bE bO base (betA d bets b a1 n1 c1 a2 n2 c2) v' (k + 1) ((pre ++ [evQ d bets (u + 1) v]).flatMap ratL)) := by
          have h := hco
          rw [show pre.flatMap ratL ++ ratL (evQ d bets (u + 1) v) = (pre ++ [evQ d bets (u + 1) v]).flatMap ratL by simp [List.flatMap_append]] at h
          exact h
        clear hco
        go_wp2
        go_roundw
        case rel => exact ⟨k + 1, (u + 1), v, pre ++ [evQ d bets (u + 1) v], v', by omega, by omega, by go_num, by go_num, by go_num, HN, HC2⟩
        case measure => simp [intOf]; omega
      by_cases hx2 : x = -1
      · subst hx2
        rw [show (if (-1 : Int) = 1 then u + 1 else u) = u by simp, show (if (-1 : Int) = -1 then v + 1 else v) = v + 1 by simp] at HST
        have HN : Hid (evTrail (evQ d bets) 0 0 l = (pre ++ [evQ d bets u (v + 1)]) ++ evTrail (evQ d bets) u (v + 1) (l.drop (k + 1))) := by
          have := HST.out
          exact (by rw [this, List.append_assoc]; rfl : evTrail (evQ d bets) 0 0 l = (pre ++ [evQ d bets u (v + 1)]) ++ evTrail (evQ d bets) u (v + 1) (l.drop (k + 1)))
        go_wp2_with fail
        refine (course_clo d bets q b a1 n1 c1 a2 n2 c2 w0 wp bB bE bO base ((k : Int) + 1) u (v + 1) (by omega) wr HBT.out vo k (by omega) _ HCO.out).mono ?_
        rintro e w2 ⟨rfl, v', hco⟩
        have HC2 : Hid (CO w0 wp w2 bB bE bO base (betA d bets b a1 n1 c1 a2 n2 c2) v' (k + 1) ((pre ++ [evQ d bets u (v + 1)]).flatMap ratL)) := by
          have h := hco
          rw [show pre.flatMap ratL ++ ratL (evQ d bets u (v + 1)) = (pre ++ [evQ d bets u (v + 1)]).flatMap ratL by simp [List.flatMap_append]] at h
          exact h
        clear hco
        go_wp2
        go_roundw
        case rel => exact ⟨k + 1, u, (v + 1), pre ++ [evQ d bets u (v + 1)], v', by omega, by omega, by go_num, by go_num, by go_num, HN, HC2⟩
        case measure => simp [intOf]; omega
      · rw [if_neg hx1, if_neg hx2] at HST
        have hb1 : (x == 1) = false := by simpa using hx1
        have hb2 : (x == -1) = false := by simpa using hx2
        have HN : Hid (evTrail (evQ d bets) 0 0 l = (pre ++ [evQ d bets u v]) ++ evTrail (evQ d bets) u v (l.drop (k + 1))) := by
          have := HST.out
          exact (by rw [this, List.append_assoc]; rfl : evTrail (evQ d bets) 0 0 l = (pre ++ [evQ d bets u v]) ++ evTrail (evQ d bets) u v (l.drop (k + 1)))
        go_wp2_with fail
        refine (course_clo d bets q b a1 n1 c1 a2 n2 c2 w0 wp bB bE bO base ((k : Int) + 1) u v (by omega) wr HBT.out vo k (by omega) _ HCO.out).mono ?_
        rintro e w2 ⟨rfl, v', hco⟩
        have HC2 : Hid (CO w0 wp w2 bB bE bO base (betA d bets b a1 n1 c1 a2 n2 c2) v' (k + 1) ((pre ++ [evQ d bets u v]).flatMap ratL)) := by
          have h := hco
          rw [show pre.flatMap ratL ++ ratL (evQ d bets u v) = (pre ++ [evQ d bets u v]).flatMap ratL by simp [List.flatMap_append]] at h
          exact h
        clear hco
        go_wp2
        go_roundw
        case rel => exact ⟨k + 1, u, v, pre ++ [evQ d bets u v], v', by omega, by omega, by go_num, by go_num, by go_num, HN, HC2⟩
        case measure => simp [intOf]; omega
    · have hkl : k = l.length := by omega
      have HF : Hid (evTrail (evQ d bets) 0 0 l = pre) := by
        have := HK.out; rw [List.drop_eq_nil_of_le (by omega)] at this
        exact (by rw [this]; simp [evTrail] : evTrail (evQ d bets) 0 0 l = pre)
      subst hkl
      go_wp2
      go_end0
      refine ⟨rfl, vo, ?_⟩
      rw [HF.out]; exact HCO.out
/-- what Decided and Course find wrong -/
def decF (d k : Int) (n m : ByteArray) (l : List Tri) : Int := if testF d k n m = 0 then pairF l else testF d k n m
def decV (d k : Int) (n m : ByteArray) (l : List Tri) : Nat := if decF d k n m l = 0 then decAt (decB d k.toNat (rQ n m)⁻¹) 0 0 0 (pairZ l) else 0
def crsV (d k : Int) (n m : ByteArray) (l : List Tri) : List Rat := if decF d k n m l = 0 then evTrail (evQ d k.toNat) 0 0 (pairZ l) else []
theorem pair_ok {l : List Tri} (h : pairF l = 0) : pairL l = pairZ l ∧ (pairZ l).length ≤ 60 := by
  refine ⟨by unfold pairL; rw [if_pos h], ?_⟩
  unfold pairF at h
  by_cases h1 : 20000 < l.length
  · rw [if_pos h1] at h; cases h
  rw [if_neg h1] at h
  by_cases h2 : l.all okT = false
  · rw [if_pos h2] at h; cases h
  rw [if_neg h2] at h
  by_cases h3 : 60 < (pairZ l).length
  · rw [if_pos h3] at h; cases h
  · omega
theorem icells_ics (l : List Int) : icells l = ics l := rfl
set_option maxHeartbeats 4000000 in
theorem Decided_at (d k : Int) (n m : ByteArray) (hn : n.size ≤ maxLen) (hm : m.size ≤ maxLen) (l : List Tri) (a : Option Addr) (c : Nat) (w : World) (hs : Sl w (.slice a l.length c) l.length (l.flatMap triL)) :
    Calls Try.prog 10 #[.agg #[.int .i64 d, .int .i64 k, .string n, .string m], .slice a l.length c] w fun e w' => e = .returned (.tuple #[.int .i64 (decV d k n m l), .int .i64 (decF d k n m l)]) ∧ Below w.heap.size w w' := by
  have HS := Lib.hid hs
  clear hs
  go_enter Try.func10, Try.ntmps10
  go_upto_region 1 with (fail)
  refine wp_box1 fun w0 hsz hbw0 hA0 => ?_
  have t0 : w0.cell? ⟨w.heap.size, 0, none⟩ = some (.int .i64 d) := hA0.2 0
  have t1 : w0.cell? ⟨w.heap.size, 1, none⟩ = some (.int .i64 k) := hA0.2 1
  have t2 : w0.cell? ⟨w.heap.size, 2, none⟩ = some (.string n) := hA0.2 2
  have t3 : w0.cell? ⟨w.heap.size, 3, none⟩ = some (.string m) := hA0.2 3
  clear hsz
  go_wp2_with fail
  refine (readTest_at d k n m hn hm _).mono ?_
  rintro e w1 ⟨dd, kk, b, a1, n1, c1, a2, n2, c2, rfl, hx, hb1⟩
  have HX := Lib.hid hx
  have hbw1 := ext_trans hbw0 hb1
  clear hx t0 t1 t2 t3 hA0 hbw0 hb1
  go_upto_region 2 with (fail)
  refine wp_box1 fun w2 hsz2 hb2 hB2 => ?_
  have hbw2 := ext_trans hbw1 hb2
  clear hsz2
  by_cases ht : testF d k n m = 0
  · have hne : (testF d k n m != 0) = false := by simp [ht]
    have HT := Lib.hid ht
    obtain ⟨rfl, hkk, hbt⟩ := HX.out ht
    obtain ⟨kn, hkn⟩ : ∃ kn : Nat, k.toNat = kn := ⟨_, rfl⟩
    rw [hkn] at hkk hbt
    subst hkk
    have HKN := Lib.hid hkn
    have HBT := Lib.hid (hbt.ext hb2)
    clear hkn
    have HDF : Hid (decF dd k n m l = pairF l) := by
      have : decF dd k n m l = pairF l := by unfold decF; rw [if_pos HT.out]
      exact this
    clear ht hbt HX hb2 hbw1
    go_wp2_with fail
    refine (decide_Pairs l a c _ (HS.out.ext hbw2)).mono ?_
    rintro e w3 ⟨a3, c3, rfl, hs3, hb3⟩
    have hbw3 := ext_trans hbw2 hb3
    have hB3 := hB2.ext hb3
    have HB3 := Lib.hid (HBT.out.ext hb3)
    have HS3 := Lib.hid hs3
    clear hs3 hb3 hB2 hbw2 HBT
    by_cases hp : pairF l = 0
    · have hne2 : (pairF l != 0) = false := by simp [hp]
      obtain ⟨e1, e2⟩ := pair_ok hp
      have HV : Hid (decV dd k n m l = decAt (decB dd kn (rQ n m)⁻¹) 0 0 0 (pairZ l)) := by
        have : decV dd k n m l = decAt (decB dd kn (rQ n m)⁻¹) 0 0 0 (pairZ l) := by unfold decV; rw [if_pos (by rw [HDF.out]; exact hp), HKN.out]
        exact this
      have HP := Lib.hid hp
      rw [e1]
      have HS4 : Hid (Sl w3 (.slice a3 (pairZ l).length c3) (pairZ l).length (ics (pairZ l))) := by have h := HS3.out; rw [e1] at h; exact h
      have b0 : w3.cell? ⟨w1.heap.size, 0, none⟩ = some (.int .i64 dd) := hB3.2 0
      have b1 : w3.cell? ⟨w1.heap.size, 1, none⟩ = some (.int .i64 (kn : Int)) := hB3.2 1
      have b2 : w3.cell? ⟨w1.heap.size, 2, none⟩ = some (.bool b) := hB3.2 2
      have b3 : w3.cell? ⟨w1.heap.size, 3, none⟩ = some (.slice a1 n1 c1) := hB3.2 3
      have b4 : w3.cell? ⟨w1.heap.size, 4, none⟩ = some (.slice a2 n2 c2) := hB3.2 4
      clear hp e1 HS3 hB3
      go_wp2_with fail
      refine (decided_at dd kn (rQ n m)⁻¹ b a1 n1 c1 a2 n2 c2 (pairZ l) a3 c3 _ HB3.out HS4.out e2).mono ?_
      rintro e w4 ⟨rfl, hb4⟩
      go_wp2
      go_ret2
      refine ⟨?_, ext_trans hbw3 hb4⟩
      rw [HDF.out, HP.out, HV.out]; rfl
    · have hne2 : (pairF l != 0) = true := by simp [hp]
      have HV : Hid (decV dd k n m l = 0) := by
        have : decV dd k n m l = 0 := by unfold decV; rw [if_neg (by rw [HDF.out]; exact hp)]
        exact this
      clear hp
      go_wp2
      go_ret2
      refine ⟨?_, hbw3⟩
      rw [HDF.out, HV.out]; rfl
  · have hne : (testF d k n m != 0) = true := by simp [ht]
    have HDF : Hid (decF d k n m l = testF d k n m ∧ decV d k n m l = 0) := by
      have h1 : decF d k n m l = testF d k n m := by unfold decF; rw [if_neg ht]
      exact ⟨h1, by unfold decV; rw [if_neg (by rw [h1]; exact ht)]⟩
    clear ht HX
    go_wp2
    go_ret2
    refine ⟨?_, hbw2⟩
    rw [HDF.out.1, HDF.out.2]; rfl
end Nm
end Go.Proofs.Ytkinapdfmgfdfaa
namespace Go.Proofs.Ytkinapdfmgfdfaa
open Go.RowKit
namespace Nm
def CrsPost (w : World) (l : List Rat) (f : Int) (e : Ending) (w' : World) : Prop := ∃ a cap, e = .returned (.tuple #[.slice a l.length cap, .int .i64 f]) ∧ Sl w' (.slice a l.length cap) l.length (l.flatMap ratL) ∧ Below w.heap.size w w'
theorem evTrail_length (ev : Nat → Nat → Rat) : ∀ (l : List Int) (u v : Nat), (evTrail ev u v l).length = l.length
  | [], _, _ => rfl
  | _ :: r, _, _ => by simp only [evTrail, List.length_cons]; rw [evTrail_length ev r]
set_option maxHeartbeats 4000000 in
theorem Course_at (d k : Int) (n m : ByteArray) (hn : n.size ≤ maxLen) (hm : m.size ≤ maxLen) (l : List Tri) (a : Option Addr) (c : Nat) (w : World) (hs : Sl w (.slice a l.length c) l.length (l.flatMap triL)) :
    Calls Try.prog 11 #[.agg #[.int .i64 d, .int .i64 k, .string n, .string m], .slice a l.length c] w (CrsPost w (crsV d k n m l) (decF d k n m l)) := by
  have HS := Lib.hid hs
  clear hs
  go_enter Try.func11, Try.ntmps11
  go_upto_region 1 with (fail)
  refine wp_box1 fun w0 hsz hbw0 hA0 => ?_
  have t0 : w0.cell? ⟨w.heap.size, 0, none⟩ = some (.int .i64 d) := hA0.2 0
  have t1 : w0.cell? ⟨w.heap.size, 1, none⟩ = some (.int .i64 k) := hA0.2 1
  have t2 : w0.cell? ⟨w.heap.size, 2, none⟩ = some (.string n) := hA0.2 2
  have t3 : w0.cell? ⟨w.heap.size, 3, none⟩ = some (.string m) := hA0.2 3
  clear hsz
  go_wp2_with fail
  refine (readTest_at d k n m hn hm _).mono ?_
  rintro e w1 ⟨dd, kk, b, a1, n1, c1, a2, n2, c2, rfl, hx, hb1⟩
  have HX := Lib.hid hx
  have hbw1 := ext_trans hbw0 hb1
  clear hx t0 t1 t2 t3 hA0 hbw0 hb1
  go_upto_region 2 with (fail)
  refine wp_box2r fun w2 hsz2 hb2 hB2 hE2 hF2 => ?_
  have hbw2 := ext_trans hbw1 hb2
  have e0 : w2.cell? ⟨w1.heap.size + 1, 0, none⟩ = some (.int .i64 (testF d k n m)) := hE2.2 0
  have hle := hbw1.size
  clear hsz2
  by_cases ht : testF d k n m = 0
  · have hne : (testF d k n m != 0) = false := by simp [ht]
    have HT := Lib.hid ht
    obtain ⟨rfl, hkk, hbt⟩ := HX.out ht
    obtain ⟨kn, hkn⟩ : ∃ kn : Nat, k.toNat = kn := ⟨_, rfl⟩
    rw [hkn] at hkk hbt
    subst hkk
    have HKN := Lib.hid hkn
    have HBT := Lib.hid (hbt.ext hb2)
    have HDF : Hid (decF dd k n m l = pairF l) := by
      have : decF dd k n m l = pairF l := by unfold decF; rw [if_pos HT.out]
      exact this
    have hbw1' := Lib.hid hbw1
    have hb2' := Lib.hid hb2
    clear hkn ht hbt HX hb2 hbw1
    go_wp2_with fail
    refine (decide_Pairs l a c _ (HS.out.ext hbw2)).mono ?_
    rintro e w3 ⟨a3, c3, rfl, hs3, hb3⟩
    have hb3' := hb3
    have hbw3 := ext_trans hbw2 hb3
    have hB3 := hB2.ext hb3
    have hE3 := hE2.ext hb3
    have hF3 := hF2.ext hE2 hb3
    have HB3 := Lib.hid (HBT.out.ext hb3)
    have HS3 := Lib.hid hs3
    have e3 : w3.cell? ⟨w1.heap.size + 1, 0, none⟩ = some (.int .i64 (testF dd k n m)) := hE3.2 0
    have f3 := hF3 0
    clear hs3 hb3 hB2 hE2 hF2 hbw2 HBT e0
    have hB4 := box_other hB3 (show w1.heap.size ≠ w1.heap.size + 1 by omega) 0 (.int .i64 (pairF l))
    have hE4 := one_box (y := .int .i64 (pairF l)) hE3
    have hF4 := fre_set hF3 ⟨w1.heap.size + 1, 0, none⟩ (.int .i64 (pairF l))
    have HB4 : Hid (Below w1.heap.size w1 (w3.setCell ⟨w1.heap.size + 1, 0, none⟩ (.int .i64 (pairF l)))) := (ext_trans hb2'.out hb3').setCell (Nat.le_succ _) _
    have hB4s : Hid (w1.heap.size ≤ (w3.setCell ⟨w1.heap.size + 1, 0, none⟩ (.int .i64 (pairF l))).heap.size) := HB4.out.size
    clear hb3'
    have hbw4 : Below w.heap.size w (w3.setCell ⟨w1.heap.size + 1, 0, none⟩ (.int .i64 (pairF l))) := hbw3.setCell (by simp; omega) _
    by_cases hp : pairF l = 0
    · have hne2 : (pairF l != 0) = false := by simp [hp]
      obtain ⟨e1, e2⟩ := pair_ok hp
      have HV : Hid (crsV dd k n m l = evTrail (evQ dd kn) 0 0 (pairZ l)) := by
        have : crsV dd k n m l = evTrail (evQ dd kn) 0 0 (pairZ l) := by unfold crsV; rw [if_pos (by rw [HDF.out]; exact hp), HKN.out]
        exact this
      have HD0 : Hid (decF dd k n m l = 0) := by have := HDF.out; rw [hp] at this; exact this
      have HKW : Hid (Keeps w3 (w3.setCell ⟨w1.heap.size + 1, 0, none⟩ (.int .i64 (pairF l)))) := by
        have h3 := hE3.2 0
        rw [HT.out, ← hp] at h3
        exact fun a v hc => (cell_same h3 a).trans hc
      have HS4 : Hid (Sl w3 (.slice a3 (pairZ l).length c3) (pairZ l).length (ics (pairZ l))) := by have h := HS3.out; rw [e1] at h; exact h
      rw [e1]
      have HP0 := Lib.hid hp
      clear hp
      have z0 : (w3.setCell ⟨w1.heap.size + 1, 0, none⟩ (.int .i64 (pairF l))).cell? ⟨w1.heap.size + 1, 0, none⟩ = some (.int .i64 (pairF l)) := hE4.2 0
      go_upto_region 7 with (fail)
      clear z0
      generalize hw4 : w3.setCell ⟨w1.heap.size + 1, 0, none⟩ (.int .i64 (pairF l)) = w4 at *
      clear hw4 e1 HS3 hB3 hE3 hF3 e3 f3
      have HS5 := Lib.hid (Sl.keep HS4.out HKW.out)
      have HB5 : Hid (Bett w4 dd kn (rQ n m)⁻¹ b a1 n1 c1 a2 n2 c2) := by
        obtain ⟨y1, y2, y3, y4, ⟨v1, v2, hv, hn1, hn2⟩, y6, y7⟩ := HB3.out
        exact ⟨y1, y2, y3, y4, ⟨v1, v2, hv, Sl.keep hn1 HKW.out, Sl.keep hn2 HKW.out⟩, y6, y7⟩
      go_upto_region 8 with (fail)
      refine wp_box1r fun w5 hsz5 hb5 hO5 hFO5 => ?_
      have hBl := hB4.1
      have hEl := hE4.1
      have HE5 : Hid (Box w5 (w1.heap.size + 1) #[.int .i64 0]) := by have h := hE4.ext hb5; rw [HP0.out] at h; exact h
      have HCO : Hid (CO w1 w4 w5 w1.heap.size (w1.heap.size + 1) w4.heap.size (w4.heap.size + 1) (betA dd kn b a1 n1 c1 a2 n2 c2) (.slice none 0 0) 0 []) :=
        ⟨HB4.out.trans (hb5.mono hB4s.out), hB4.ext hb5, HE5.out, hF4.ext hE4 hb5, hO5, hFO5, World.ownsRow_nil _ _ _ _, Nat.le_succ _, by omega, by omega, by omega, by omega, by omega, by omega, by omega, by omega, by omega, .of_below hb5, Nat.le_refl _, Nat.le_succ _⟩
      have hbw5 := ext_trans hbw4 hb5
      clear hsz5 hb5 hO5 hFO5 hB4 hE4 hF4 hBl hEl
      go_wp2_with fail
      refine (walk_course dd kn (rQ n m)⁻¹ b a1 n1 c1 a2 n2 c2 w1 w4 _ _ _ _ (pairZ l) a3 c3 w5 HB5.out HS5.out e2 HCO.out).mono ?_
      rintro e w6 ⟨rfl, vo, hco⟩
      have HC6 := Lib.hid hco
      have HSO := Lib.hid (Sl.ofOwn hco.own)
      obtain ⟨ao, co, rfl⟩ := own_any hco.own
      have z0 : w6.cell? ⟨w1.heap.size + 1, 0, none⟩ = some (.int .i64 0) := hco.e.2 0
      have z1 : w6.cell? ⟨w4.heap.size, 0, none⟩ = some (.slice ao (pairZ l).length co) := hco.o.2 0
      clear hco
      go_wp2
      go_ret2
      refine ⟨ao, co, ?_, ?_, hbw1'.out.trans (HC6.out.low.mono hbw1'.out.size)⟩
      · rw [HD0.out, HV.out, evTrail_length]; rfl
      · rw [HV.out, evTrail_length]; exact HSO.out
    · have hne2 : (pairF l != 0) = true := by simp [hp]
      have HV : Hid (crsV dd k n m l = []) := by
        have : crsV dd k n m l = [] := by unfold crsV; rw [if_neg (by rw [HDF.out]; exact hp)]
        exact this
      clear hp
      have z0 : (w3.setCell ⟨w1.heap.size + 1, 0, none⟩ (.int .i64 (pairF l))).cell? ⟨w1.heap.size + 1, 0, none⟩ = some (.int .i64 (pairF l)) := hE4.2 0
      go_upto_region 6 with (fail)
      generalize w3.setCell ⟨w1.heap.size + 1, 0, none⟩ (.int .i64 (pairF l)) = w4 at *
      go_quiet (fail)
      go_wp2
      go_ret2
      refine ⟨none, 0, ?_, ?_, below_drewN hbw4 _⟩
      · rw [HDF.out, HV.out]; rfl
      · rw [HV.out]; exact Sl.nil _
  · have hne : (testF d k n m != 0) = true := by simp [ht]
    have HDF : Hid (decF d k n m l = testF d k n m ∧ crsV d k n m l = []) := by
      have h1 : decF d k n m l = testF d k n m := by unfold decF; rw [if_neg ht]
      exact ⟨h1, by unfold crsV; rw [if_neg (by rw [h1]; exact ht)]⟩
    clear ht HX hB2 hE2 hF2 hb2 hbw1
    go_wp2
    go_quiet (fail)
    go_wp2
    go_ret2
    refine ⟨none, 0, ?_, ?_, below_drewN hbw2 _⟩
    · rw [HDF.out.1, HDF.out.2]; rfl
    · rw [HDF.out.2]; exact Sl.nil _
end Nm
end Go.Proofs.Ytkinapdfmgfdfaa
namespace Go.Proofs.Ytkinapdfmgfdfaa
namespace Nm
theorem winsOf_append (a : Int) (l m : List Tri) : winsOf a (l ++ m) = winsOf a l ++ winsOf a m := by
  unfold winsOf; rw [List.filter_append, List.map_append]
theorem zip_pre (f : Bool → Bool → Int) : ∀ (a b c d : List Bool), ∃ r, List.zipWith f (a ++ c) (b ++ d) = List.zipWith f a b ++ r
  | [], b, c, d => ⟨_, rfl⟩
  | _ :: _, [], c, d => ⟨_, by simp; rfl⟩
  | x :: a, y :: b, c, d => by
    obtain ⟨r, h⟩ := zip_pre f a b c d
    exact ⟨r, by simp [h]⟩
/-- more trials only lengthen the pairs -/
theorem pairZ_more (l m : List Tri) : ∃ r, pairZ (l ++ m) = pairZ l ++ r := by
  unfold pairZ; rw [winsOf_append, winsOf_append]; exact zip_pre _ _ _ _ _
theorem evTrail_more (ev : Nat → Nat → Rat) : ∀ (l r : List Int) (u v : Nat), ∃ t, evTrail ev u v (l ++ r) = evTrail ev u v l ++ t
  | [], _, _, _ => ⟨_, rfl⟩
  | p :: l, r, u, v => by
    obtain ⟨t, h⟩ := evTrail_more ev l r (if p = 1 then u + 1 else u) (if p = -1 then v + 1 else v)
    exact ⟨t, by simp only [List.cons_append, evTrail, h]⟩
theorem decAt_range (dec : Nat → Nat → Bool) : ∀ (l : List Int) (u v k : Nat), decAt dec u v k l = 0 ∨ (k < decAt dec u v k l ∧ decAt dec u v k l ≤ k + l.length)
  | [], _, _, _ => .inl rfl
  | p :: l, u, v, k => by
    simp only [decAt]
    generalize (if p = 1 then u + 1 else u) = u'
    generalize (if p = -1 then v + 1 else v) = v'
    split
    · right; simp
    · rcases decAt_range dec l u' v' (k + 1) with h | h
      · exact .inl h
      · right; simp only [List.length_cons]; omega
theorem decAt_more (dec : Nat → Nat → Bool) : ∀ (l r : List Int) (u v k : Nat), (decAt dec u v k l ≠ 0 → decAt dec u v k (l ++ r) = decAt dec u v k l) ∧ (decAt dec u v k l = 0 → decAt dec u v k (l ++ r) = 0 ∨ k + l.length < decAt dec u v k (l ++ r))
  | [], r, u, v, k => ⟨fun h => absurd rfl h, fun _ => by
      rcases decAt_range dec r u v k with h | h
      · exact .inl h
      · exact .inr h.1⟩
  | p :: l, r, u, v, k => by
    simp only [List.cons_append, decAt]
    generalize (if p = 1 then u + 1 else u) = u'
    generalize (if p = -1 then v + 1 else v) = v'
    split
    · exact ⟨fun _ => rfl, fun h => by omega⟩
    · obtain ⟨h1, h2⟩ := decAt_more dec l r u' v' (k + 1)
      refine ⟨h1, fun h => ?_⟩
      rcases h2 h with h3 | h3
      · exact .inl h3
      · right; simp only [List.length_cons]; omega
/-- the law's last line -/
theorem stays (d k : Int) (n m : ByteArray) (l r : List Tri) (h1 : decF d k n m l = 0) (h2 : decF d k n m (l ++ r) = 0) :
    ∃ t, crsV d k n m (l ++ r) = crsV d k n m l ++ t ∧ (decV d k n m l ≠ 0 → decV d k n m (l ++ r) = decV d k n m l) ∧ (decV d k n m l = 0 → decV d k n m (l ++ r) = 0 ∨ (crsV d k n m l).length < decV d k n m (l ++ r)) := by
  unfold crsV decV
  rw [if_pos h1, if_pos h2, if_pos h1, if_pos h2]
  obtain ⟨s, hs⟩ := pairZ_more l r
  rw [hs, evTrail_length]
  obtain ⟨t, ht⟩ := evTrail_more (evQ d k.toNat) (pairZ l) s 0 0
  obtain ⟨m1, m2⟩ := decAt_more (decB d k.toNat (rQ n m)⁻¹) (pairZ l) s 0 0 0
  refine ⟨t, ht, m1, fun h => ?_⟩
  have := m2 h
  rw [Nat.zero_add] at this
  exact this
theorem decF_len {d k : Int} {n m : ByteArray} {l : List Tri} (h : decF d k n m l = 0) : l.length ≤ 20000 := by
  unfold decF at h
  by_cases ht : testF d k n m = 0
  · rw [if_pos ht] at h
    unfold pairF at h
    rcases Nat.lt_or_ge 20000 l.length with h1 | h1
    · rw [if_pos h1] at h; cases h
    · exact h1
  · rw [if_neg ht] at h; exact absurd h ht
end Nm
end Go.Proofs.Ytkinapdfmgfdfaa
