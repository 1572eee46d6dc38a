/- both of package value. Sum, Product, Inverse of package value. -/
import Derived.Test.YtmnmepbljegjeaaGreatDoorFair12
namespace Go.Proofs.YtmnmepbljegjeaaGreatDoor
open Go.RowKit
namespace Nm
abbrev xv (b : Bool) (p1 : Option Addr) (m1 c1 : Nat) (p2 : Option Addr) (m2 c2 : Nat) : Value := .agg #[.bool b, .slice p1 m1 c1, .slice p2 m2 c2]
def OfP (w : World) (n d : ByteArray) (e : Ending) (w' : World) : Prop := ∃ b p1 m1 c1 p2 m2 c2, e = .returned (.tuple #[xv b p1 m1 c1 p2 m2 c2, .int .i64 (rF n d)]) ∧ (rF n d = 0 → XR w' (xv b p1 m1 c1 p2 m2 c2) (rQ n d)) ∧ Below w.heap.size w w'
theorem xratOf_is (n d : ByteArray) (hn : n.size ≤ maxLen) (hd : d.size ≤ maxLen) (w : World) : Calls Tryz.prog 75 #[.agg #[.string n, .string d]] w (OfP w n d) := by
  refine (xratOf_at n d hn hd w).mono ?_
  rintro e w' ⟨v, rfl, h1, h2, hb⟩
  by_cases h : rF n d = 0
  · obtain ⟨a1, c1, a2, c2, rfl, k1, k2⟩ := (h1 h).open_
    exact ⟨_, _, _, _, _, _, _, rfl, fun _ => h1 h, hb⟩
  · have := h2 h
    subst this
    exact ⟨_, _, _, _, _, _, _, rfl, fun h' => absurd h' h, hb⟩
theorem XR.keepBox {w w' : World} {v : Value} {q : Rat} {b : Nat} (h : XR w v q) (hC : Box w b zeroX) (hk : ∀ p : Addr, p.block ≠ b → w'.cell? p = w.cell? p) : XR w' v q := by
  obtain ⟨v1, v2, h0, h1, h2⟩ := h
  exact ⟨v1, v2, h0, h1.keepBox hC zeroX_word hk, h2.keepBox hC zeroX_word hk⟩
theorem Box.far {w w' : World} {b b2 : Nat} {A : Array Value} (h : Box w b A) (hk : ∀ p : Addr, p.block ≠ b2 → w'.cell? p = w.cell? p) (hne : b ≠ b2) (hs : w.heap.size ≤ w'.heap.size) : Box w' b A :=
  ⟨Nat.lt_of_lt_of_le h.1 hs, fun j => (hk ⟨b, j, none⟩ hne).trans (h.2 j)⟩
theorem set3_size (w : World) (b : Nat) (v0 v1 v2 : Value) : (((w.setCell ⟨b, 0, none⟩ v0).setCell ⟨b, 1, none⟩ v1).setCell ⟨b, 2, none⟩ v2).heap.size = w.heap.size := by simp [World.setCell]
theorem set3_frozen (w : World) (b : Nat) (v0 v1 v2 : Value) (p : Addr) : (((w.setCell ⟨b, 0, none⟩ v0).setCell ⟨b, 1, none⟩ v1).setCell ⟨b, 2, none⟩ v2).frozen? p = w.frozen? p := by simp
/-- Two struct parameters, and two struct results. -/
theorem wp_box4r {P : Program} {c : Code} {Q : Exit → Act → World → Prop} {a : Act} {w : World} {A B C D : Array Value} {t u v x : TypeId}
    (h : ∀ W, W.heap.size = w.heap.size + 4 → Below w.heap.size w W → Box W w.heap.size A → Box W (w.heap.size + 1) B → Box W (w.heap.size + 2) C → Box W (w.heap.size + 3) D → Fre W (w.heap.size + 2) → Fre W (w.heap.size + 3) → c.wp P Q a W) : c.wp P Q a ((((w.alloc (.cells A t)).alloc (.cells B u)).alloc (.cells C v)).alloc (.cells D x)) := by
  have b1 : Box (((w.alloc (.cells A t)).alloc (.cells B u)).alloc (.cells C v)) (w.heap.size + 2) C := by
    have := Box.new ((w.alloc (.cells A t)).alloc (.cells B u)) C v
    simpa using this
  have f1 : Fre (((w.alloc (.cells A t)).alloc (.cells B u)).alloc (.cells C v)) (w.heap.size + 2) := by
    have := Fre.new ((w.alloc (.cells A t)).alloc (.cells B u)) C v
    simpa using this
  refine h _ (by simp) (by go_grown) ((((Box.new _ _ _).ext (by go_grown)).ext (by go_grown)).ext (by go_grown)) ?_ (b1.ext (by go_grown)) ?_ (f1.ext b1 (by go_grown)) ?_
  · have := Box.new (w.alloc (.cells A t)) B u
    exact Box.ext (Box.ext (by simpa using this) (by go_grown)) (by go_grown)
  · have := Box.new (((w.alloc (.cells A t)).alloc (.cells B u)).alloc (.cells C v)) D x
    simpa using this
  · have := Fre.new (((w.alloc (.cells A t)).alloc (.cells B u)).alloc (.cells C v)) D x
    simpa using this
/-- the fault of two ratios -/
def bF (n1 d1 n2 d2 : ByteArray) : Int := if rF n1 d1 ≠ 0 then rF n1 d1 else rF n2 d2
def BothPost (w : World) (n1 d1 n2 d2 : ByteArray) (e : Ending) (w' : World) : Prop :=
  ∃ b p1 m1 c1 p2 m2 c2 b' p3 m3 c3 p4 m4 c4, e = .returned (.tuple #[xv b p1 m1 c1 p2 m2 c2, xv b' p3 m3 c3 p4 m4 c4, .int .i64 (bF n1 d1 n2 d2)]) ∧ (bF n1 d1 n2 d2 = 0 → rF n1 d1 = 0 ∧ rF n2 d2 = 0 ∧ XR w' (xv b p1 m1 c1 p2 m2 c2) (rQ n1 d1) ∧ XR w' (xv b' p3 m3 c3 p4 m4 c4) (rQ n2 d2)) ∧ Below w.heap.size w w'
set_option maxHeartbeats 8000000 in
theorem both_at (n1 d1 n2 d2 : ByteArray) (h1 : n1.size ≤ maxLen) (h2 : d1.size ≤ maxLen) (h3 : n2.size ≤ maxLen) (h4 : d2.size ≤ maxLen) (w : World) : Calls Tryz.prog 81 #[.agg #[.string n1, .string d1], .agg #[.string n2, .string d2]] w (BothPost w n1 d1 n2 d2) := by
  have HBF : Hid (bF n1 d1 n2 d2 = if rF n1 d1 ≠ 0 then rF n1 d1 else rF n2 d2) := Lib.hid rfl
  go_enter Tryz.func81, Tryz.ntmps81
  go_upto_region 1 with (fail)
  refine wp_box4r fun W hsz hbW hA hB hC hD hF hG => ?_
  have hszW : w.heap.size + 4 ≤ W.heap.size := by omega
  clear hsz
  obtain ⟨_, oA⟩ := id hA
  go_wp2_with fail
  refine (xratOf_is n1 d1 h1 h2 W).mono ?_
  rintro e w1 ⟨b, p1, m1, c1, p2, m2, c2, rfl, hX, hb1⟩
  have hB1 := hB.ext hb1
  have hC1 := hC.ext hb1
  have hD1 := hD.ext hb1
  have hF1 := hF.ext hC hb1
  have hG1 := hG.ext hD hb1
  have hbw1 := ext_trans hbW hb1
  clear hA hB hC hD hF hG hbW hb1 oA
  obtain ⟨r0, r1, r2⟩ := boxX hC1
  have g0 := hF1 0
  have g1 := hF1 1
  have g2 := hF1 2
  have hq := three_set (.bool b) (.slice p1 m1 c1) (.slice p2 m2 c2) r0 r1 r2
  have hoth := @set3_other w1 (w.heap.size + 2) (.bool b) (.slice p1 m1 c1) (.slice p2 m2 c2)
  have hsz3 := set3_size w1 (w.heap.size + 2) (.bool b) (.slice p1 m1 c1) (.slice p2 m2 c2)
  have hfr := set3_frozen w1 (w.heap.size + 2) (.bool b) (.slice p1 m1 c1) (.slice p2 m2 c2)
  have hbw2 : Below w.heap.size w (((w1.setCell ⟨w.heap.size + 2, 0, none⟩ (.bool b)).setCell ⟨w.heap.size + 2, 1, none⟩ (.slice p1 m1 c1)).setCell ⟨w.heap.size + 2, 2, none⟩ (.slice p2 m2 c2)) := ((hbw1.setCell (by simp) _).setCell (by simp) _).setCell (by simp) _
  have hB2 := Box.far hB1 hoth (by omega) (Nat.le_of_eq hsz3.symm)
  have hD2 := Box.far hD1 hoth (by omega) (Nat.le_of_eq hsz3.symm)
  have hG2 : Fre (((w1.setCell ⟨w.heap.size + 2, 0, none⟩ (.bool b)).setCell ⟨w.heap.size + 2, 1, none⟩ (.slice p1 m1 c1)).setCell ⟨w.heap.size + 2, 2, none⟩ (.slice p2 m2 c2)) (w.heap.size + 3) := fun j => (hfr _).trans (hG1 j)
  have HX : Hid (rF n1 d1 = 0 → XR (((w1.setCell ⟨w.heap.size + 2, 0, none⟩ (.bool b)).setCell ⟨w.heap.size + 2, 1, none⟩ (.slice p1 m1 c1)).setCell ⟨w.heap.size + 2, 2, none⟩ (.slice p2 m2 c2)) (xv b p1 m1 c1 p2 m2 c2) (rQ n1 d1)) := fun h => (hX h).keepBox hC1 hoth
  have HQ := Lib.hid hq
  have HD2 := Lib.hid hD2
  have HB2 := Lib.hid hB2
  have HG2 := Lib.hid hG2
  have HBW := Lib.hid hbw2
  clear hq hoth hsz3 hfr hbw2 hB2 hD2 hG2 hX hbw1
  by_cases hz : rF n1 d1 = 0
  · have hne : (rF n1 d1 != 0) = false := by simp [hz]
    have HZ := Lib.hid hz
    have HF2 : Hid (bF n1 d1 n2 d2 = rF n2 d2) := by have := HBF.out; rw [if_neg (by simpa using hz)] at this; exact this
    clear hz
    go_upto_region 3 with (fail)
    have hD3 := HD2.out
    have hB3 := HB2.out
    have hG3 := HG2.out
    have hX3 := HX.out HZ.out
    have hq3 := HQ.out
    have hbw3 := HBW.out
    clear HQ HD2 HB2 HG2 HBW HX hB1 hC1 hD1 hF1 hG1 r0 r1 r2 g0 g1 g2
    generalize (((w1.setCell ⟨w.heap.size + 2, 0, none⟩ (.bool b)).setCell ⟨w.heap.size + 2, 1, none⟩ (.slice p1 m1 c1)).setCell ⟨w.heap.size + 2, 2, none⟩ (.slice p2 m2 c2)) = w2 at *
    obtain ⟨_, oB⟩ := id hB3
    go_wp2_with fail
    refine (xratOf_is n2 d2 h3 h4 w2).mono ?_
    rintro e w3 ⟨b', p3, m3, c3, p4, m4, c4, rfl, hY, hb3⟩
    have hD4 := hD3.ext hb3
    have hG4 := hG3.ext hD3 hb3
    have hbw4 := ext_trans hbw3 hb3
    have hX4 := hX3.ext hb3
    have y0 := cell_later hb3 hq3.1
    have y1 := cell_later hb3 hq3.2.1
    have y2 := cell_later hb3 hq3.2.2
    clear hB3 oB hD3 hG3 hbw3 hX3 hq3 hb3
    obtain ⟨r0, r1, r2⟩ := boxX hD4
    have g0 := hG4 0
    have g1 := hG4 1
    have g2 := hG4 2
    have hq := three_set (.bool b') (.slice p3 m3 c3) (.slice p4 m4 c4) r0 r1 r2
    have hoth := @set3_other w3 (w.heap.size + 3) (.bool b') (.slice p3 m3 c3) (.slice p4 m4 c4)
    have hbw5 : Below w.heap.size w (((w3.setCell ⟨w.heap.size + 3, 0, none⟩ (.bool b')).setCell ⟨w.heap.size + 3, 1, none⟩ (.slice p3 m3 c3)).setCell ⟨w.heap.size + 3, 2, none⟩ (.slice p4 m4 c4)) := ((hbw4.setCell (by simp) _).setCell (by simp) _).setCell (by simp) _
    have HX5 := Lib.hid (hX4.keepBox hD4 hoth)
    have HY5 := Lib.hid (fun h => (hY h).keepBox hD4 hoth)
    have z0 := (hoth ⟨w.heap.size + 2, 0, none⟩ (by simp)).trans y0
    have z1 := (hoth ⟨w.heap.size + 2, 1, none⟩ (by simp)).trans y1
    have z2 := (hoth ⟨w.heap.size + 2, 2, none⟩ (by simp)).trans y2
    clear hoth hX4 hY y0 y1 y2
    go_wp2
    refine bodyPost_ret (v := .tuple #[xv b p1 m1 c1 p2 m2 c2, xv b' p3 m3 c3 p4 m4 c4, .int .i64 (rF n2 d2)]) (by simp [results, Tryz.results81, go_sem, z0, z1, z2, hq.1, hq.2.1, hq.2.2]) rfl ⟨b, p1, m1, c1, p2, m2, c2, b', p3, m3, c3, p4, m4, c4, by rw [HF2.out], fun h => ⟨HZ.out, HF2.out ▸ h, HX5.out, HY5.out (HF2.out ▸ h)⟩, hbw5⟩
  · have hne : (rF n1 d1 != 0) = true := by simp [hz]
    have HZ := Lib.hid hz
    have HF2 : Hid (bF n1 d1 n2 d2 = rF n1 d1) := by have := HBF.out; rw [if_pos hz] at this; exact this
    clear hz
    obtain ⟨s0, s1, s2⟩ := boxX HD2.out
    go_wp2
    refine bodyPost_ret (v := .tuple #[xv b p1 m1 c1 p2 m2 c2, xv false none 0 0 none 0 0, .int .i64 (rF n1 d1)]) (by simp [results, Tryz.results81, go_sem, HQ.out.1, HQ.out.2.1, HQ.out.2.2, s0, s1, s2]) rfl ⟨b, p1, m1, c1, p2, m2, c2, false, none, 0, 0, none, 0, 0, by rw [HF2.out], fun h => absurd (HF2.out ▸ h) HZ.out, HBW.out⟩
end Nm
end Go.Proofs.YtmnmepbljegjeaaGreatDoor
namespace Go.Proofs.YtmnmepbljegjeaaGreatDoor
open Go.RowKit
namespace Nm
/-- the answer: two texts, and a fault -/
def AnsPost (w : World) (s t : ByteArray) (f : Int) (e : Ending) (w' : World) : Prop := e = .returned (.tuple #[.agg #[.string s, .string t], .int .i64 f]) ∧ Below w.heap.size w w'
def opN (op : Rat → Rat → Rat) (n1 d1 n2 d2 : ByteArray) : ByteArray := if bF n1 d1 n2 d2 = 0 then outN (op (rQ n1 d1) (rQ n2 d2)) else ⟨#[]⟩
def opD (op : Rat → Rat → Rat) (n1 d1 n2 d2 : ByteArray) : ByteArray := if bF n1 d1 n2 d2 = 0 then outD (op (rQ n1 d1) (rQ n2 d2)) else ⟨#[]⟩
def opF (op : Rat → Rat → Rat) (n1 d1 n2 d2 : ByteArray) : Int := if bF n1 d1 n2 d2 = 0 then outF (op (rQ n1 d1) (rQ n2 d2)) else bF n1 d1 n2 d2
theorem rQ_small {n d : ByteArray} (h : rF n d = 0) : wlen (rQ n d).num.natAbs ≤ 4000 ∧ wlen (rQ n d).den ≤ 4000 := by
  obtain ⟨_, h2, h3, h4, h5, h6, h7, _⟩ := rQ_facts h
  have l1 : (cutS n).data.toList.length = (cutS n).size := Array.length_toList
  have l2 : d.data.toList.length = d.size := Array.length_toList
  constructor
  · rw [h2, sgn_natAbs]; have := wlen_dec (decv_lt (whole_whl h4).1); omega
  · rw [h3]; have := wlen_dec (decv_lt (whole_whl h5).1); omega
theorem wlen_div (n g : Nat) : wlen (n / g) ≤ wlen n := wlen_mono (Nat.div_le_self _ _)
theorem add_small {x y : Rat} (h1 : wlen x.num.natAbs ≤ 4000) (h2 : wlen x.den ≤ 4000) (h3 : wlen y.num.natAbs ≤ 4000) (h4 : wlen y.den ≤ 4000) : wlen (x + y).num.natAbs ≤ 100000000 ∧ wlen (x + y).den ≤ 100000000 := by
  have hm := wlen_mul x.den y.den
  have ha := wlen_mul x.num.natAbs y.den
  have hb := wlen_mul y.num.natAbs x.den
  have hs := wlen_add (x.num.natAbs * y.den) (y.num.natAbs * x.den)
  rw [Rat.add_def, Rat.normalize_eq]
  constructor
  · refine Nat.le_trans (wlen_mono (n := x.num.natAbs * y.den + y.num.natAbs * x.den) ?_) (by omega)
    refine Nat.le_trans (Int.natAbs_ediv_le_natAbs _ _) ?_
    refine Nat.le_trans (Int.natAbs_add_le _ _) ?_
    rw [Int.natAbs_mul, Int.natAbs_mul]
    exact Nat.le_refl _
  · exact Nat.le_trans (wlen_div _ _) (by omega)
theorem mul_small {x y : Rat} (h1 : wlen x.num.natAbs ≤ 4000) (h2 : wlen x.den ≤ 4000) (h3 : wlen y.num.natAbs ≤ 4000) (h4 : wlen y.den ≤ 4000) : wlen (x * y).num.natAbs ≤ 100000000 ∧ wlen (x * y).den ≤ 100000000 := by
  have hm := wlen_mul x.den y.den
  have ha := wlen_mul x.num.natAbs y.num.natAbs
  rw [Rat.mul_def, Rat.normalize_eq]
  constructor
  · refine Nat.le_trans (wlen_mono (n := x.num.natAbs * y.num.natAbs) ?_) (by omega)
    refine Nat.le_trans (Int.natAbs_ediv_le_natAbs _ _) ?_
    rw [Int.natAbs_mul]
    exact Nat.le_refl _
  · exact Nat.le_trans (wlen_div _ _) (by omega)
set_option maxHeartbeats 1000000 in
theorem sum_at (n1 d1 n2 d2 : ByteArray) (h1 : n1.size ≤ maxLen) (h2 : d1.size ≤ maxLen) (h3 : n2.size ≤ maxLen) (h4 : d2.size ≤ maxLen) (w : World) : Calls Tryz.prog 17 #[.agg #[.string n1, .string d1], .agg #[.string n2, .string d2]] w (AnsPost w (opN (· + ·) n1 d1 n2 d2) (opD (· + ·) n1 d1 n2 d2) (opF (· + ·) n1 d1 n2 d2)) := by
  have HN : Hid (opN (· + ·) n1 d1 n2 d2 = if bF n1 d1 n2 d2 = 0 then outN (rQ n1 d1 + rQ n2 d2) else ⟨#[]⟩) := Lib.hid rfl
  have HDn : Hid (opD (· + ·) n1 d1 n2 d2 = if bF n1 d1 n2 d2 = 0 then outD (rQ n1 d1 + rQ n2 d2) else ⟨#[]⟩) := Lib.hid rfl
  have HFn : Hid (opF (· + ·) n1 d1 n2 d2 = if bF n1 d1 n2 d2 = 0 then outF (rQ n1 d1 + rQ n2 d2) else bF n1 d1 n2 d2) := Lib.hid rfl
  generalize opN (· + ·) n1 d1 n2 d2 = on at *
  generalize opD (· + ·) n1 d1 n2 d2 = od at *
  generalize opF (· + ·) n1 d1 n2 d2 = of at *
  go_enter Tryz.func17, Tryz.ntmps17
  go_upto_region 1 with (fail)
  refine wp_box3r fun W hsz hbW hA hB hC hF => ?_
  clear hsz
  obtain ⟨_, oA⟩ := id hA
  obtain ⟨_, oB⟩ := id hB
  go_wp2_with fail
  refine (both_at n1 d1 n2 d2 h1 h2 h3 h4 W).mono ?_
  rintro e w1 ⟨b, p1, m1, c1, p2, m2, c2, b', p3, m3, c3, p4, m4, c4, rfl, hX, hb1⟩
  have hC1 := hC.ext hb1
  have hF1 := hF.ext hC hb1
  have hbw1 := ext_trans hbW hb1
  clear hA hB hC hF hbW hb1 oA oB
  by_cases hz : bF n1 d1 n2 d2 = 0
  · obtain ⟨z1, z2, hx, hy⟩ := hX hz
    have HX := Lib.hid hx
    have HY := Lib.hid hy
    have q1 := rQ_small z1
    have q2 := rQ_small z2
    have HSM := Lib.hid (add_small q1.1 q1.2 q2.1 q2.2)
    obtain ⟨s1, s2⟩ := q1
    obtain ⟨s3, s4⟩ := q2
    have HN2 : Hid (on = outN (rQ n1 d1 + rQ n2 d2)) := by have := HN.out; rw [if_pos hz] at this; exact this
    have HD2 : Hid (od = outD (rQ n1 d1 + rQ n2 d2)) := by have := HDn.out; rw [if_pos hz] at this; exact this
    have HF2 : Hid (of = outF (rQ n1 d1 + rQ n2 d2)) := by have := HFn.out; rw [if_pos hz] at this; exact this
    rw [hz]
    clear hz hX hx hy z1 z2 HN HDn HFn
    go_wp2_with fail
    refine (xplus_at (rQ n1 d1) (rQ n2 d2) _ _ _ (HX.out.ext ?_) (HY.out.ext ?_) (by omega) (by omega) (by omega) (by omega)).mono ?_
    · go_grown
    · go_grown
    rintro e w2 ⟨vz, rfl, hz2, hb2⟩
    have hg2 : Below w1.heap.size w1 w2 := Below.trans (by go_grown) (hb2.mono (by simp; try omega))
    have hC2 := hC1.ext hg2
    have hF2 := hF1.ext hC1 hg2
    have hbw2 := ext_trans hbw1 hg2
    clear hC1 hF1 hbw1 hb2 hg2 HX HY
    have HZ2 := Lib.hid hz2
    obtain ⟨e1, e2, e3, e4, rfl, _, _⟩ := hz2.open_
    clear hz2
    go_wp2_with fail
    refine (ratio_at _ _ _ HZ2.out HSM.out.1 HSM.out.2).mono ?_
    rintro e w3 ⟨rfl, hb3⟩
    rw [← HN2.out, ← HD2.out, ← HF2.out]
    have hC3 := hC2.ext hb3
    have hF3 := hF2.ext hC2 hb3
    have hbw3 := ext_trans hbw2 hb3
    clear hC2 hF2 hbw2 hb3 HZ2 HN2 HD2 HF2
    have r0 : w3.cell? ⟨w.heap.size + 2, 0, none⟩ = some (.string ⟨#[]⟩) := hC3.2 0
    have r1 : w3.cell? ⟨w.heap.size + 2, 1, none⟩ = some (.string ⟨#[]⟩) := hC3.2 1
    have g0 := hF3 0
    have g1 := hF3 1
    have hq := two_set (.string on) (.string od) r0 r1
    have hbF : Below w.heap.size w ((w3.setCell ⟨w.heap.size + 2, 0, none⟩ (.string on)).setCell ⟨w.heap.size + 2, 1, none⟩ (.string od)) := (hbw3.setCell (by simp) _).setCell (by simp) _
    go_wp2
    exact bodyPost_ret (v := .tuple #[.agg #[.string on, .string od], .int .i64 of]) (by simp [results, Tryz.results17, go_sem, hq.1, hq.2]) rfl ⟨rfl, hbF⟩
  · have hne : (bF n1 d1 n2 d2 != 0) = true := by simp [hz]
    have HN2 : Hid (on = ⟨#[]⟩) := by have := HN.out; rw [if_neg hz] at this; exact this
    have HD2 : Hid (od = ⟨#[]⟩) := by have := HDn.out; rw [if_neg hz] at this; exact this
    have HF2 : Hid (of = bF n1 d1 n2 d2) := by have := HFn.out; rw [if_neg hz] at this; exact this
    clear hz hX HN HDn HFn
    have HC1 := Lib.hid hC1
    have HF1 := Lib.hid hF1
    have HBW := Lib.hid hbw1
    clear hC1 hF1 hbw1
    go_upto_region 3 with (fail)
    have hC2 := HC1.out.ext (W' := (w1.alloc (Obj.cells #[Value.bool b, Value.slice p1 m1 c1, Value.slice p2 m2 c2] 88)).alloc (Obj.cells #[Value.bool b', Value.slice p3 m3 c3, Value.slice p4 m4 c4] 88)) (by go_grown)
    have hF2 := HF1.out.ext HC1.out (W' := (w1.alloc (Obj.cells #[Value.bool b, Value.slice p1 m1 c1, Value.slice p2 m2 c2] 88)).alloc (Obj.cells #[Value.bool b', Value.slice p3 m3 c3, Value.slice p4 m4 c4] 88)) (by go_grown)
    have hbw2 : Below w.heap.size w ((w1.alloc (Obj.cells #[Value.bool b, Value.slice p1 m1 c1, Value.slice p2 m2 c2] 88)).alloc (Obj.cells #[Value.bool b', Value.slice p3 m3 c3, Value.slice p4 m4 c4] 88)) := ext_trans HBW.out (by go_grown)
    generalize ((w1.alloc (Obj.cells #[Value.bool b, Value.slice p1 m1 c1, Value.slice p2 m2 c2] 88)).alloc (Obj.cells #[Value.bool b', Value.slice p3 m3 c3, Value.slice p4 m4 c4] 88)) = w3 at *
    have r0 : w3.cell? ⟨w.heap.size + 2, 0, none⟩ = some (.string ⟨#[]⟩) := hC2.2 0
    have r1 : w3.cell? ⟨w.heap.size + 2, 1, none⟩ = some (.string ⟨#[]⟩) := hC2.2 1
    have g0 := hF2 0
    have g1 := hF2 1
    have hq := two_set (.string ⟨#[]⟩) (.string ⟨#[]⟩) r0 r1
    have hbF : Below w.heap.size w ((w3.setCell ⟨w.heap.size + 2, 0, none⟩ (.string ⟨#[]⟩)).setCell ⟨w.heap.size + 2, 1, none⟩ (.string ⟨#[]⟩)) := (hbw2.setCell (by simp) _).setCell (by simp) _
    go_wp2
    exact bodyPost_ret (v := .tuple #[.agg #[.string ⟨#[]⟩, .string ⟨#[]⟩], .int .i64 (bF n1 d1 n2 d2)]) (by simp [results, Tryz.results17, go_sem, hq.1, hq.2]) rfl ⟨by rw [HN2.out, HD2.out, HF2.out], hbF⟩
set_option maxHeartbeats 1000000 in
theorem product_at (n1 d1 n2 d2 : ByteArray) (h1 : n1.size ≤ maxLen) (h2 : d1.size ≤ maxLen) (h3 : n2.size ≤ maxLen) (h4 : d2.size ≤ maxLen) (w : World) : Calls Tryz.prog 19 #[.agg #[.string n1, .string d1], .agg #[.string n2, .string d2]] w (AnsPost w (opN (· * ·) n1 d1 n2 d2) (opD (· * ·) n1 d1 n2 d2) (opF (· * ·) n1 d1 n2 d2)) := by
  have HN : Hid (opN (· * ·) n1 d1 n2 d2 = if bF n1 d1 n2 d2 = 0 then outN (rQ n1 d1 * rQ n2 d2) else ⟨#[]⟩) := Lib.hid rfl
  have HDn : Hid (opD (· * ·) n1 d1 n2 d2 = if bF n1 d1 n2 d2 = 0 then outD (rQ n1 d1 * rQ n2 d2) else ⟨#[]⟩) := Lib.hid rfl
  have HFn : Hid (opF (· * ·) n1 d1 n2 d2 = if bF n1 d1 n2 d2 = 0 then outF (rQ n1 d1 * rQ n2 d2) else bF n1 d1 n2 d2) := Lib.hid rfl
  generalize opN (· * ·) n1 d1 n2 d2 = on at *
  generalize opD (· * ·) n1 d1 n2 d2 = od at *
  generalize opF (· * ·) n1 d1 n2 d2 = of at *
  go_enter Tryz.func19, Tryz.ntmps19
  go_upto_region 1 with (fail)
  refine wp_box3r fun W hsz hbW hA hB hC hF => ?_
  clear hsz
  obtain ⟨_, oA⟩ := id hA
  obtain ⟨_, oB⟩ := id hB
  go_wp2_with fail
  refine (both_at n1 d1 n2 d2 h1 h2 h3 h4 W).mono ?_
  rintro e w1 ⟨b, p1, m1, c1, p2, m2, c2, b', p3, m3, c3, p4, m4, c4, rfl, hX, hb1⟩
  have hC1 := hC.ext hb1
  have hF1 := hF.ext hC hb1
  have hbw1 := ext_trans hbW hb1
  clear hA hB hC hF hbW hb1 oA oB
  by_cases hz : bF n1 d1 n2 d2 = 0
  · obtain ⟨z1, z2, hx, hy⟩ := hX hz
    have HX := Lib.hid hx
    have HY := Lib.hid hy
    have q1 := rQ_small z1
    have q2 := rQ_small z2
    have HSM := Lib.hid (mul_small q1.1 q1.2 q2.1 q2.2)
    obtain ⟨s1, s2⟩ := q1
    obtain ⟨s3, s4⟩ := q2
    have HN2 : Hid (on = outN (rQ n1 d1 * rQ n2 d2)) := by have := HN.out; rw [if_pos hz] at this; exact this
    have HD2 : Hid (od = outD (rQ n1 d1 * rQ n2 d2)) := by have := HDn.out; rw [if_pos hz] at this; exact this
    have HF2 : Hid (of = outF (rQ n1 d1 * rQ n2 d2)) := by have := HFn.out; rw [if_pos hz] at this; exact this
    rw [hz]
    clear hz hX hx hy z1 z2 HN HDn HFn
    go_wp2_with fail
    refine (xtimes_at (rQ n1 d1) (rQ n2 d2) _ _ _ (HX.out.ext ?_) (HY.out.ext ?_) (by omega) (by omega) (by omega) (by omega)).mono ?_
    · go_grown
    · go_grown
    rintro e w2 ⟨vz, rfl, hz2, hb2⟩
    have hg2 : Below w1.heap.size w1 w2 := Below.trans (by go_grown) (hb2.mono (by simp; try omega))
    have hC2 := hC1.ext hg2
    have hF2 := hF1.ext hC1 hg2
    have hbw2 := ext_trans hbw1 hg2
    clear hC1 hF1 hbw1 hb2 hg2 HX HY
    have HZ2 := Lib.hid hz2
    obtain ⟨e1, e2, e3, e4, rfl, _, _⟩ := hz2.open_
    clear hz2
    go_wp2_with fail
    refine (ratio_at _ _ _ HZ2.out HSM.out.1 HSM.out.2).mono ?_
    rintro e w3 ⟨rfl, hb3⟩
    rw [← HN2.out, ← HD2.out, ← HF2.out]
    have hC3 := hC2.ext hb3
    have hF3 := hF2.ext hC2 hb3
    have hbw3 := ext_trans hbw2 hb3
    clear hC2 hF2 hbw2 hb3 HZ2 HN2 HD2 HF2
    have r0 : w3.cell? ⟨w.heap.size + 2, 0, none⟩ = some (.string ⟨#[]⟩) := hC3.2 0
    have r1 : w3.cell? ⟨w.heap.size + 2, 1, none⟩ = some (.string ⟨#[]⟩) := hC3.2 1
    have g0 := hF3 0
    have g1 := hF3 1
    have hq := two_set (.string on) (.string od) r0 r1
    have hbF : Below w.heap.size w ((w3.setCell ⟨w.heap.size + 2, 0, none⟩ (.string on)).setCell ⟨w.heap.size + 2, 1, none⟩ (.string od)) := (hbw3.setCell (by simp) _).setCell (by simp) _
    go_wp2
    exact bodyPost_ret (v := .tuple #[.agg #[.string on, .string od], .int .i64 of]) (by simp [results, Tryz.results19, go_sem, hq.1, hq.2]) rfl ⟨rfl, hbF⟩
  · have hne : (bF n1 d1 n2 d2 != 0) = true := by simp [hz]
    have HN2 : Hid (on = ⟨#[]⟩) := by have := HN.out; rw [if_neg hz] at this; exact this
    have HD2 : Hid (od = ⟨#[]⟩) := by have := HDn.out; rw [if_neg hz] at this; exact this
    have HF2 : Hid (of = bF n1 d1 n2 d2) := by have := HFn.out; rw [if_neg hz] at this; exact this
    clear hz hX HN HDn HFn
    have HC1 := Lib.hid hC1
    have HF1 := Lib.hid hF1
    have HBW := Lib.hid hbw1
    clear hC1 hF1 hbw1
    go_upto_region 3 with (fail)
    have hC2 := HC1.out.ext (W' := (w1.alloc (Obj.cells #[Value.bool b, Value.slice p1 m1 c1, Value.slice p2 m2 c2] 88)).alloc (Obj.cells #[Value.bool b', Value.slice p3 m3 c3, Value.slice p4 m4 c4] 88)) (by go_grown)
    have hF2 := HF1.out.ext HC1.out (W' := (w1.alloc (Obj.cells #[Value.bool b, Value.slice p1 m1 c1, Value.slice p2 m2 c2] 88)).alloc (Obj.cells #[Value.bool b', Value.slice p3 m3 c3, Value.slice p4 m4 c4] 88)) (by go_grown)
    have hbw2 : Below w.heap.size w ((w1.alloc (Obj.cells #[Value.bool b, Value.slice p1 m1 c1, Value.slice p2 m2 c2] 88)).alloc (Obj.cells #[Value.bool b', Value.slice p3 m3 c3, Value.slice p4 m4 c4] 88)) := ext_trans HBW.out (by go_grown)
    generalize ((w1.alloc (Obj.cells #[Value.bool b, Value.slice p1 m1 c1, Value.slice p2 m2 c2] 88)).alloc (Obj.cells #[Value.bool b', Value.slice p3 m3 c3, Value.slice p4 m4 c4] 88)) = w3 at *
    have r0 : w3.cell? ⟨w.heap.size + 2, 0, none⟩ = some (.string ⟨#[]⟩) := hC2.2 0
    have r1 : w3.cell? ⟨w.heap.size + 2, 1, none⟩ = some (.string ⟨#[]⟩) := hC2.2 1
    have g0 := hF2 0
    have g1 := hF2 1
    have hq := two_set (.string ⟨#[]⟩) (.string ⟨#[]⟩) r0 r1
    have hbF : Below w.heap.size w ((w3.setCell ⟨w.heap.size + 2, 0, none⟩ (.string ⟨#[]⟩)).setCell ⟨w.heap.size + 2, 1, none⟩ (.string ⟨#[]⟩)) := (hbw2.setCell (by simp) _).setCell (by simp) _
    go_wp2
    exact bodyPost_ret (v := .tuple #[.agg #[.string ⟨#[]⟩, .string ⟨#[]⟩], .int .i64 (bF n1 d1 n2 d2)]) (by simp [results, Tryz.results19, go_sem, hq.1, hq.2]) rfl ⟨by rw [HN2.out, HD2.out, HF2.out], hbF⟩
end Nm
end Go.Proofs.YtmnmepbljegjeaaGreatDoor
