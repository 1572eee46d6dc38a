/- power and capitals of package decide, power of package metric. capitals of package decide. Exact numbers: plain mathematics over the core's Rat. common of package value: the greatest common divisor. XratFrom, Zero, Turned of package value. Zero, Turned, Times of package value. slices.Reverse at bytes. Decimal numerals: plain mathematics. The numeral of a number: plain mathematics. Digits of package value: the numeral of a number. Ratio of package value: an exact number as texts. -/
import Derived.Test.YtemenlcigengeaaGreatDoorTq05
import Derived.Test.YtemenlcigengeaaGreatDoorTq00
import Derived.Deep.RegionHeld3
import Derived.Deep.Cut
import Derived.Test.YtemenlcigengeaaGreatDoorTq03
import Derived.Test.YtemenlcigengeaaGreatDoorTq08
import Derived.Deep.LoopGhost
import Derived.Test.YtemenlcigengeaaGreatDoorProg
import Derived.Test.YtemenlcigengeaaGreatDoorTq06
import Derived.Laws.BytesString
namespace Go.Proofs.YtemenlcigengeaaGreatDoor
open Go.RowKit
namespace Nm
theorem wlen_one {n : Nat} (h : n < B) : wlen n ≤ 1 := wlen_le (by rw [Nat.pow_one]; exact h)
theorem wlen_pow {n : Nat} (h : n < B) : ∀ k, wlen (n ^ k) ≤ k + 1
  | 0 => by rw [Nat.pow_zero]; exact wlen_one (by decide)
  | k + 1 => by
    rw [Nat.pow_succ]
    have h1 := wlen_mul (n ^ k) n
    have h2 := wlen_pow h k
    have h3 := wlen_one h
    omega
end Nm
end Go.Proofs.YtemenlcigengeaaGreatDoor
namespace Go.Proofs.YtemenlcigengeaaGreatDoor
open Go.RowKit
namespace Nm
/-- a bettor as it lies in five cells -/
abbrev betA (d k : Int) (b : Bool) (a1 : Option Addr) (n1 c1 : Nat) (a2 : Option Addr) (n2 c2 : Nat) : Array Value := #[.int .i64 d, .int .i64 k, .bool b, .slice a1 n1 c1, .slice a2 n2 c2]
end Nm
end Go.Proofs.YtemenlcigengeaaGreatDoor
namespace Go.Proofs.YtemenlcigengeaaGreatDoor
namespace Nm
def sgn (b : Bool) (n : Nat) : Int := if b then -(n : Int) else (n : Int)
theorem sgn_natAbs (b : Bool) (n : Nat) : (sgn b n).natAbs = n := by cases b <;> simp [sgn]
theorem sgn_self (z : Int) : sgn (decide (z < 0)) z.natAbs = z := by
  by_cases h : z < 0
  · simp [sgn, h]; omega
  · simp [sgn, h]; omega
theorem norm_den (b : Bool) (n d : Nat) (hd : d ≠ 0) : (Rat.normalize (sgn b n) d hd).den = d / n.gcd d := by
  rw [Rat.normalize_eq]; simp only [sgn_natAbs]
theorem norm_num (b : Bool) (n d : Nat) (hd : d ≠ 0) : (Rat.normalize (sgn b n) d hd).num = sgn b (n / n.gcd d) := by
  rw [Rat.normalize_eq]; simp only [sgn_natAbs]
  cases b
  · simp [sgn]
  · simp only [sgn, if_true]
    rw [Int.neg_ediv_of_dvd (Int.natCast_dvd_natCast.2 (Nat.gcd_dvd_left n d))]
    simp
theorem norm_abs (b : Bool) (n d : Nat) (hd : d ≠ 0) : (Rat.normalize (sgn b n) d hd).num.natAbs = n / n.gcd d := by
  rw [norm_num, sgn_natAbs]
theorem norm_neg (b : Bool) (n d : Nat) (hd : d ≠ 0) : decide ((Rat.normalize (sgn b n) d hd).num < 0) = (b && decide (0 < n / n.gcd d)) := by
  rw [norm_num]
  generalize n / n.gcd d = m
  cases b
  · simp [sgn]
  · simp [sgn]
theorem den_pos (x y : Rat) : x.den * y.den ≠ 0 := Nat.mul_ne_zero x.den_nz y.den_nz
theorem inv_facts {x : Rat} (h : x.num ≠ 0) : x⁻¹.num.natAbs = x.den ∧ x⁻¹.den = x.num.natAbs ∧ decide (x⁻¹.num < 0) = decide (x.num < 0) ∧ x⁻¹.num ≠ 0 := by
  have h1 := Rat.num_inv x
  have h2 := Rat.den_inv x
  have hd := x.den_nz
  refine ⟨?_, ?_, ?_, ?_⟩
  · rw [h1, Int.natAbs_mul, Int.natAbs_sign_of_ne_zero h]; simp
  · rw [h2, if_neg h]
  · rw [h1]
    rcases Int.lt_or_gt_of_ne h with h3 | h3
    · rw [Int.sign_eq_neg_one_of_neg h3]; simp [h3]; omega
    · rw [Int.sign_eq_one_of_pos h3]; simp; omega
  · rw [h1]
    rcases Int.lt_or_gt_of_ne h with h3 | h3
    · rw [Int.sign_eq_neg_one_of_neg h3]; omega
    · rw [Int.sign_eq_one_of_pos h3]; omega
end Nm
end Go.Proofs.YtemenlcigengeaaGreatDoor
namespace Go.Proofs.YtemenlcigengeaaGreatDoor
open Go.RowKit
namespace Nm
set_option maxHeartbeats 4000000 in
theorem common_at (x y : Nat) (v u : Value) (w : World) (hx : N w v x) (hy : N w u y) (hxl : wlen x ≤ 1000000000) (hyl : wlen y ≤ 1000000000) : Calls Tryz.prog 102 #[v, u] w (NPost w (Nat.gcd x y)) := by
  obtain ⟨a, c, rfl, s1⟩ := hx.open_
  obtain ⟨a', c', rfl, s2⟩ := hy.open_
  have HX := Lib.hid hx
  have HY := Lib.hid hy
  clear hx hy s1 s2
  go_enter Tryz.func102, Tryz.ntmps102
  go_wp2
  go_loopg [0, 1] y (fun k s0 s1 wr => ∃ p : Nat, N wr s0 p ∧ N wr s1 k ∧ wlen p ≤ 1000000000 ∧ wlen k ≤ 1000000000 ∧ Nat.gcd p k = Nat.gcd x y ∧ Below w.heap.size w wr)
  case atStart => exact ⟨x, HX.out, HY.out, hxl, hyl, rfl, Below.refl _ _⟩
  case round =>
    obtain ⟨p, hp, hk, hpl, hkl, hg, hb⟩ := hrel
    have HP := Lib.hid hp
    have HK := Lib.hid hk
    have HG := Lib.hid hg
    obtain ⟨a, c, rfl, s1⟩ := hp.open_
    obtain ⟨a', c', rfl, s2⟩ := hk.open_
    clear hp hk hg s1 s2
    by_cases h0 : 0 < gk
    · have hl : 0 < (digs gk).length := by have := @wlen_eq_zero gk; unfold wlen at this; omega
      go_wp2_with fail
      refine (over_at p gk _ _ wr HP.out HK.out hpl h0).mono ?_
      rintro e w1 ⟨v1, v2, rfl, hq, hr, hb1⟩
      go_wp2
      go_roundg (p % gk)
      case measure => exact Nat.mod_lt _ h0
      case rel => exact ⟨gk, HK.out.ext hb1, hr, hkl, Nat.le_trans (wlen_mono (Nat.le_of_lt (Nat.mod_lt _ h0))) hkl, by rw [Nat.gcd_comm, ← Nat.gcd_rec, Nat.gcd_comm]; exact HG.out, ext_trans hb hb1⟩
    · obtain rfl : gk = 0 := by omega
      have hl : (digs 0).length = 0 := wlen_zero
      rw [hl]
      clear hl
      go_wp2
      go_ret
      exact ⟨_, rfl, by have := HG.out; rw [Nat.gcd_zero_right] at this; rw [← this]; exact HP.out, hb⟩
end Nm
end Go.Proofs.YtemenlcigengeaaGreatDoor
namespace Go.Proofs.YtemenlcigengeaaGreatDoor
open Go.RowKit
namespace Nm
/-- An exact number as it lies in three cells. -/
def XR (w : World) (v : Value) (q : Rat) : Prop := ∃ v1 v2, v = .agg #[.bool (decide (q.num < 0)), v1, v2] ∧ N w v1 q.num.natAbs ∧ N w v2 q.den
theorem XR.ext {w w' : World} {v : Value} {q : Rat} (h : XR w v q) (hb : Below w.heap.size w w') : XR w' v q := by
  obtain ⟨v1, v2, h0, h1, h2⟩ := h; exact ⟨v1, v2, h0, h1.ext hb, h2.ext hb⟩
def XPost (w : World) (q : Rat) (e : Ending) (w' : World) : Prop := ∃ v, e = .returned v ∧ XR w' v q ∧ Below w.heap.size w w'
def isWord : Value → Bool
  | .int .u32 _ => true
  | _ => false
/-- a number lies in no block of other things -/
theorem N.keepBox {w w' : World} {v : Value} {n b : Nat} {A : Array Value} (h : N w v n) (hA : Box w b A) (hne : ∀ (j : Nat) (u : Value), A[j]? = some u → isWord u = false) (hk : ∀ p : Addr, p.block ≠ b → w'.cell? p = w.cell? p) : N w' v n := by
  obtain ⟨a, cap, hv, h1, h2, h0, h3⟩ := h
  refine ⟨a, cap, hv, h1, h2, h0, fun i x hx => ?_⟩
  obtain ⟨b', o, ha, hc⟩ := h3 i x hx
  refine ⟨b', o, ha, (hk _ ?_).trans hc⟩
  rintro (rfl : b' = b)
  have h4 := hA.2 (o + i)
  rw [hc] at h4
  have h5 := hne _ _ h4.symm
  have hi : i < (digs n).length := by have := (List.getElem?_eq_some_iff.1 hx).1; rwa [wcs_length] at this
  rw [wcs_get hi] at hx
  cases hx
  cases h5
/-- Three cells of a block, written. -/
theorem three_set {w : World} {b : Nat} {u0 u1 u2 : Value} (v0 v1 v2 : Value) (h0 : w.cell? ⟨b, 0, none⟩ = some u0) (h1 : w.cell? ⟨b, 1, none⟩ = some u1) (h2 : w.cell? ⟨b, 2, none⟩ = some u2) :
    (((w.setCell ⟨b, 0, none⟩ v0).setCell ⟨b, 1, none⟩ v1).setCell ⟨b, 2, none⟩ v2).cell? ⟨b, 0, none⟩ = some v0 ∧ (((w.setCell ⟨b, 0, none⟩ v0).setCell ⟨b, 1, none⟩ v1).setCell ⟨b, 2, none⟩ v2).cell? ⟨b, 1, none⟩ = some v1 ∧ (((w.setCell ⟨b, 0, none⟩ v0).setCell ⟨b, 1, none⟩ v1).setCell ⟨b, 2, none⟩ v2).cell? ⟨b, 2, none⟩ = some v2 := by
  obtain ⟨e0, e1⟩ := two_set v0 v1 h0 h1
  have e2 : ((w.setCell ⟨b, 0, none⟩ v0).setCell ⟨b, 1, none⟩ v1).cell? ⟨b, 2, none⟩ = some u2 := by rw [World.cell?_setCell_other _ _ _ _ (by simp), World.cell?_setCell_other _ _ _ _ (by simp)]; exact h2
  refine ⟨?_, ?_, World.cell?_setCell_same _ _ _ e2⟩
  · rw [World.cell?_setCell_other _ _ _ _ (by simp)]; exact e0
  · rw [World.cell?_setCell_other _ _ _ _ (by simp)]; exact e1
theorem set3_other {w : World} {b : Nat} (v0 v1 v2 : Value) : ∀ p : Addr, p.block ≠ b → (((w.setCell ⟨b, 0, none⟩ v0).setCell ⟨b, 1, none⟩ v1).setCell ⟨b, 2, none⟩ v2).cell? p = w.cell? p := by
  intro p hp
  rw [World.cell?_setCell_other _ _ _ _ (fun e => hp (by rw [← e])), World.cell?_setCell_other _ _ _ _ (fun e => hp (by rw [← e])), World.cell?_setCell_other _ _ _ _ (fun e => hp (by rw [← e]))]
/-- the cells of no exact number -/
def zeroX : Array Value := #[.bool false, .slice none 0 0, .slice none 0 0]
theorem boxX {w : World} {b : Nat} (h : Box w b zeroX) : w.cell? ⟨b, 0, none⟩ = some (.bool false) ∧ w.cell? ⟨b, 1, none⟩ = some (.slice none 0 0) ∧ w.cell? ⟨b, 2, none⟩ = some (.slice none 0 0) := ⟨h.2 0, h.2 1, h.2 2⟩
theorem zeroX_word : ∀ (j : Nat) (u : Value), zeroX[j]? = some u → isWord u = false := by
  intro j u h
  match j with
  | 0 => cases h; rfl
  | 1 => cases h; rfl
  | 2 => cases h; rfl
  | n + 3 => simp [zeroX] at h
/-- what is there behind the store of a struct result -/
theorem res3 {w0 w : World} {b : Nat} {v1 v2 : Value} {n1 n2 : Nat} (bb : Bool) (hC : Box w b zeroX) (h1 : N w v1 n1) (h2 : N w v2 n2) (hb : Below w0.heap.size w0 w) (hle : w0.heap.size ≤ b) :
    let w' := ((w.setCell ⟨b, 0, none⟩ (.bool bb)).setCell ⟨b, 1, none⟩ v1).setCell ⟨b, 2, none⟩ v2
    N w' v1 n1 ∧ N w' v2 n2 ∧ Below w0.heap.size w0 w' ∧ w'.cell? ⟨b, 0, none⟩ = some (.bool bb) ∧ w'.cell? ⟨b, 1, none⟩ = some v1 ∧ w'.cell? ⟨b, 2, none⟩ = some v2 := by
  have hq := three_set (.bool bb) v1 v2 (hC.2 0) (hC.2 1) (hC.2 2)
  exact ⟨h1.keepBox hC zeroX_word (set3_other _ _ _), h2.keepBox hC zeroX_word (set3_other _ _ _), ((hb.setCell hle _).setCell hle _).setCell hle _, hq.1, hq.2.1, hq.2.2⟩
end Nm
end Go.Proofs.YtemenlcigengeaaGreatDoor
namespace Go.Proofs.YtemenlcigengeaaGreatDoor
open Go.RowKit
namespace Nm
theorem XR.open_ {w : World} {v : Value} {q : Rat} (h : XR w v q) : ∃ a1 c1 a2 c2, v = .agg #[.bool (decide (q.num < 0)), .slice a1 (digs q.num.natAbs).length c1, .slice a2 (digs q.den).length c2] ∧ N w (.slice a1 (digs q.num.natAbs).length c1) q.num.natAbs ∧ N w (.slice a2 (digs q.den).length c2) q.den := by
  obtain ⟨v1, v2, rfl, h1, h2⟩ := h
  obtain ⟨a1, c1, rfl, _⟩ := h1.open_
  obtain ⟨a2, c2, rfl, _⟩ := h2.open_
  exact ⟨a1, c1, a2, c2, rfl, h1, h2⟩
theorem S2R.low {w W w' : World} {B b1 : Nat} {A1 : Array Value} {b2 : Nat} {A2 : Array Value} (h : S2R W B b1 A1 b2 A2 w') (hb : Below w.heap.size w W) (hB : w.heap.size ≤ B) : Below w.heap.size w w' := hb.trans (h.1.mono hB)
set_option maxHeartbeats 2000000 in
theorem zero_at (q : Rat) (v : Value) (w : World) (hx : XR w v q) : Calls Tryz.prog 44 #[v] w fun e w' => e = .returned (.bool (decide (q.num = 0))) ∧ Below w.heap.size w w' := by
  obtain ⟨a1, c1, a2, c2, rfl, h1, h2⟩ := hx.open_
  have HZ : Hid (((((digs q.num.natAbs).length : Nat) : Int) == 0) = decide (q.num = 0)) := by
    have : ((((digs q.num.natAbs).length : Nat) : Int) == 0) = decide (q.num = 0) := by
      rw [Bool.eq_iff_iff, beq_iff_eq, decide_eq_true_eq]
      have h := @wlen_eq_zero q.num.natAbs
      unfold wlen at h
      omega
    exact this
  clear h1 h2 hx
  go_enter Tryz.func44, Tryz.ntmps44
  go_wp2
  go_ret
  exact ⟨congrArg (fun b => Ending.returned (.bool b)) HZ.out, by go_grown⟩
set_option maxHeartbeats 4000000 in
theorem turned_at (q : Rat) (v : Value) (w : World) (hx : XR w v q) (h0 : q.num ≠ 0) : Calls Tryz.prog 45 #[v] w (XPost w q⁻¹) := by
  obtain ⟨a1, c1, a2, c2, rfl, h1, h2⟩ := hx.open_
  have H1 := Lib.hid h1
  have H2 := Lib.hid h2
  have HI := Lib.hid (inv_facts h0)
  clear h1 h2 hx h0
  go_enter Tryz.func45, Tryz.ntmps45
  go_upto_region 1 with (fail)
  refine wp_box2r fun W hsz hbW hA hC hF => ?_
  obtain ⟨_, hA2⟩ := id hA
  obtain ⟨r0, r1, r2⟩ := boxX hC
  have g0 := hF 0
  have g1 := hF 1
  have g2 := hF 2
  obtain ⟨k1, k2, k3, z0, z1, z2⟩ := res3 (decide (q.num < 0)) hC (H2.out.ext hbW) (H1.out.ext hbW) hbW (by omega)
  have HK := Lib.hid (And.intro k1 (And.intro k2 k3))
  clear k1 k2 k3 hsz
  go_wp2
  refine bodyPost_ret (v := .agg #[.bool (decide (q.num < 0)), .slice a2 (digs q.den).length c2, .slice a1 (digs q.num.natAbs).length c1]) (by simp [results, Tryz.results45, go_sem, z0, z1, z2]) rfl ⟨_, rfl, ⟨.slice a2 (digs q.den).length c2, .slice a1 (digs q.num.natAbs).length c1, ?_, ?_, ?_⟩, HK.out.2.2⟩
  · rw [HI.out.2.2.1]
  · rw [HI.out.1]; exact HK.out.1
  · rw [HI.out.2.1]; exact HK.out.2.1
end Nm
end Go.Proofs.YtemenlcigengeaaGreatDoor
namespace Go.Proofs.YtemenlcigengeaaGreatDoor
open Go.RowKit
namespace Nm
/-- the block b is the call's own row of bytes, with whatever spare cells behind them -/
def OwnB (w : World) (b : Nat) (l : List UInt8) : Prop := ∃ cur rest, w.heap[b]? = some (.cells cur 5 (0, 0)) ∧ cur.toList = bcells l ++ rest
theorem OwnB.lt {w : World} {b : Nat} {l : List UInt8} (h : OwnB w b l) : b < w.heap.size := by
  obtain ⟨cur, rest, h, _⟩ := h
  rcases Nat.lt_or_ge b w.heap.size with hlt | hge
  · exact hlt
  · rw [Array.getElem?_eq_none hge] at h; cases h
theorem OwnB.cell {w : World} {b : Nat} {l : List UInt8} (h : OwnB w b l) {i : Nat} (hi : i < l.length) : w.cell? ⟨b, i, none⟩ = some (.int .u8 (l[i].toNat : Int)) := by
  obtain ⟨cur, rest, h, hc⟩ := h
  have := cell_of_row w b i _ _ (0, 0) h
  rw [this, ← Array.getElem?_toList, hc, List.getElem?_append_left (by rw [bcells_length]; exact hi), bcells_get _ _ hi]
theorem OwnB.frozen {w : World} {b : Nat} {l : List UInt8} (h : OwnB w b l) (i : Nat) : w.frozen? ⟨b, i, none⟩ = false := by
  obtain ⟨cur, rest, h, hc⟩ := h; simp [World.frozen?, h]
theorem OwnB.set {w : World} {b : Nat} {l : List UInt8} (h : OwnB w b l) {i : Nat} (hi : i < l.length) (x : UInt8) : OwnB (w.setCell ⟨b, i, none⟩ (.int .u8 (x.toNat : Int))) b (l.set i x) := by
  obtain ⟨cur, rest, h, hc⟩ := h
  refine ⟨cur.setIfInBounds i (.int .u8 (x.toNat : Int)), rest, ?_, ?_⟩
  · simp only [World.setCell, Array.getElem?_modify, h]; simp
  · rw [Array.toList_setIfInBounds, hc, List.set_append_left _ _ (by rw [bcells_length]; exact hi)]
    simp [bcells, List.map_set]
theorem OwnB.sl {w : World} {b : Nat} {l : List UInt8} (h : OwnB w b l) {c : Nat} (h1 : l.length ≤ c) (h2 : c ≤ maxLen) : Sl w (.slice (some ⟨b, 0, none⟩) l.length c) l.length (bcells l) := by
  refine ⟨_, c, rfl, h1, h2, (fun h => by cases h), fun i x hx => ⟨b, 0, rfl, ?_⟩⟩
  have hi : i < l.length := by have := (List.getElem?_eq_some_iff.1 hx).1; rwa [bcells_length] at this
  rw [bcells_get _ _ hi] at hx
  rw [Nat.zero_add, h.cell hi, hx]
theorem OwnB.ofRow {w : World} {base n : Nat} {v : Value} {l : List UInt8} (h : w.ownsRow base 5 1 v n (bcells l)) (hn : 0 < n) : ∃ g cap, v = .slice (some ⟨g, 0, none⟩) n cap ∧ base ≤ g ∧ n ≤ cap ∧ cap ≤ maxLen ∧ OwnB w g l := by
  obtain ⟨h1, ⟨_, h2⟩ | ⟨g, cap, cur, rfl, hb, hg, hn, hm, hs, ht⟩⟩ := h
  · omega
  · refine ⟨g, cap, rfl, hb, hn, hm, cur, cur.toList.drop (n * 1), hg, ?_⟩
    rw [← ht, List.take_append_drop]
theorem OwnB.take {w : World} {b : Nat} {l : List UInt8} (h : OwnB w b l) (k : Nat) : OwnB w b (l.take k) := by
  obtain ⟨cur, rest, h, hc⟩ := h
  refine ⟨cur, bcells (l.drop k) ++ rest, h, ?_⟩
  rw [hc, ← List.append_assoc, ← bcells_append, List.take_append_drop]
/-- half turned round -/
def Half (l S : List UInt8) (i : Nat) : Prop := S.length = l.length ∧ ∀ k (h : k < l.length), S[k]? = some (if k < i ∨ l.length - i ≤ k then l[l.length - 1 - k]'(by omega) else l[k])
theorem Half.start (l : List UInt8) : Half l l 0 := ⟨rfl, fun k h => by rw [List.getElem?_eq_getElem h, if_neg (by omega)]⟩
theorem Half.step {l S : List UInt8} {i j : Nat} (h : Half l S i) (hij : i < j) (hs : i + j + 1 = l.length) (h1 : i < S.length) (h2 : j < S.length) : Half l ((S.set i S[j]).set j S[i]) (i + 1) := by
  obtain ⟨hl, hk⟩ := h
  refine ⟨by simp [hl], fun k hkl => ?_⟩
  have ej : S[j] = l[j]'(by omega) := by
    have := hk j (by omega)
    rw [List.getElem?_eq_getElem h2, if_neg (by omega)] at this
    exact Option.some.inj this
  have ei : S[i] = l[i]'(by omega) := by
    have := hk i (by omega)
    rw [List.getElem?_eq_getElem h1, if_neg (by omega)] at this
    exact Option.some.inj this
  rw [List.getElem?_set]
  by_cases hkj : j = k
  · subst hkj
    rw [if_pos rfl, if_pos (by simp; omega), if_pos (by omega), ei]
    congr 2; omega
  · rw [if_neg hkj, List.getElem?_set]
    by_cases hki : i = k
    · subst hki
      rw [if_pos rfl, if_pos (by omega), if_pos (by omega), ej]
      congr 2; omega
    · rw [if_neg hki, hk k hkl]
      congr 1
      by_cases hc : k < i ∨ l.length - i ≤ k
      · rw [if_pos hc, if_pos (by omega)]
      · rw [if_neg hc, if_neg (by omega)]
theorem Half.done {l S : List UInt8} {i j : Nat} (h : Half l S i) (hij : j ≤ i) (hs : i + j + 1 = l.length) : S = l.reverse := by
  obtain ⟨hl, hk⟩ := h
  apply List.ext_getElem?
  intro k
  by_cases hkl : k < l.length
  · rw [hk k hkl, List.getElem?_reverse hkl]
    by_cases hc : k < i ∨ l.length - i ≤ k
    · rw [if_pos hc, List.getElem?_eq_getElem (by omega)]
    · rw [if_neg hc, List.getElem?_eq_getElem (by omega)]
      congr 2; omega
  · rw [List.getElem?_eq_none (by omega), List.getElem?_eq_none (by simp; omega)]
end Nm
end Go.Proofs.YtemenlcigengeaaGreatDoor
namespace Go.Proofs.YtemenlcigengeaaGreatDoor
namespace Nm
def digv (c : UInt8) : Nat := c.toNat - 48
/-- what digits mean -/
def decv (l : List UInt8) : Nat := l.foldl (fun a c => a * 10 + digv c) 0
theorem decv_nil : decv [] = 0 := rfl
theorem decv_foldl (m : List UInt8) : ∀ a, m.foldl (fun a c => a * 10 + digv c) a = a * 10 ^ m.length + decv m := by
  induction m with
  | nil => intro a; simp [decv]
  | cons c m ih =>
    intro a
    unfold decv
    simp only [List.foldl_cons, List.length_cons]
    rw [ih, ih (0 * 10 + digv c), Nat.pow_succ, Nat.zero_mul, Nat.zero_add, Nat.add_mul, Nat.mul_assoc, Nat.mul_comm 10]
    omega
theorem decv_append (l m : List UInt8) : decv (l ++ m) = decv l * 10 ^ m.length + decv m := by
  unfold decv; rw [List.foldl_append]; exact decv_foldl m _
theorem decv_snoc (l : List UInt8) (c : UInt8) : decv (l ++ [c]) = decv l * 10 + digv c := by rw [decv_append]; simp [decv]
/-- digits alone -/
def Digs (l : List UInt8) : Prop := ∀ c ∈ l, 48 ≤ c.toNat ∧ c.toNat ≤ 57
theorem Digs.take {l : List UInt8} (h : Digs l) (k : Nat) : Digs (l.take k) := fun c hc => h c (List.mem_of_mem_take hc)
theorem Digs.drop {l : List UInt8} (h : Digs l) (k : Nat) : Digs (l.drop k) := fun c hc => h c (List.mem_of_mem_drop hc)
theorem decv_lt {l : List UInt8} (h : Digs l) : decv l < 10 ^ l.length := by
  rw [← List.reverse_reverse l] at h ⊢
  generalize l.reverse = r at *
  induction r with
  | nil => simp [decv]
  | cons c r ih =>
    rw [List.reverse_cons] at h ⊢
    have h1 := ih (fun d hd => h d (by simp at hd ⊢; exact .inl hd))
    have h2 := h c (by simp)
    rw [decv_snoc, List.length_append, List.length_singleton, Nat.pow_succ]
    unfold digv
    omega
theorem decv_take_add (l : List UInt8) (i n : Nat) (h : i + n ≤ l.length) : decv (l.take (i + n)) = decv (l.take i) * 10 ^ n + decv ((l.drop i).take n) := by
  rw [List.take_add, decv_append, List.length_take, List.length_drop, Nat.min_eq_left (by omega)]
/-- a number has no more words than digits -/
theorem wlen_dec {x k : Nat} (h : x < 10 ^ k) : wlen x ≤ k :=
  wlen_le (Nat.lt_of_lt_of_le h (Nat.pow_le_pow_left (by decide) k))
theorem read_step {P V A c o b d0 : Nat} (h : V + P * c = A * b + d0) : (V + P * ((c + o * b) % 4294967296)) + P * B * ((c + o * b) / 4294967296) = (A + P * o) * b + d0 := by
  have e : P * ((c + o * b) % 4294967296) + P * B * ((c + o * b) / 4294967296) = P * (c + o * b) := by
    rw [B_eq, Nat.mul_assoc, ← Nat.mul_add, Nat.mod_add_div]
  rw [Nat.mul_add] at e
  rw [Nat.add_mul, Nat.mul_assoc P o b]
  omega
end Nm
end Go.Proofs.YtemenlcigengeaaGreatDoor
namespace Go.Proofs.YtemenlcigengeaaGreatDoor
namespace Nm
/-- the letter of a digit -/
def dch (d : Nat) : UInt8 := UInt8.ofNat (48 + d)
theorem dch_toNat {d : Nat} (h : d < 10) : (dch d).toNat = 48 + d := by
  unfold dch; rw [UInt8.toNat_ofNat']; exact Nat.mod_eq_of_lt (by omega)
theorem digv_dch {d : Nat} (h : d < 10) : digv (dch d) = d := by unfold digv; rw [dch_toNat h]; omega
/-- the numeral -/
def decS (x : Nat) : List UInt8 := if _h : x < 10 then [dch x] else decS (x / 10) ++ [dch (x % 10)]
  termination_by x
  decreasing_by omega
theorem decS_small {x : Nat} (h : x < 10) : decS x = [dch x] := by rw [decS]; rw [dif_pos h]
theorem decS_big {x : Nat} (h : ¬ x < 10) : decS x = decS (x / 10) ++ [dch (x % 10)] := by rw [decS]; rw [dif_neg h]
theorem decv_decS (x : Nat) : decv (decS x) = x := by
  induction x using Nat.strongRecOn with
  | ind x ih =>
    by_cases h : x < 10
    · rw [decS_small h, ← List.nil_append [dch x], decv_snoc, digv_dch h, decv_nil]; omega
    · rw [decS_big h, decv_snoc, ih _ (by omega), digv_dch (Nat.mod_lt _ (by decide))]; omega
theorem decS_digs (x : Nat) : Digs (decS x) := by
  induction x using Nat.strongRecOn with
  | ind x ih =>
    by_cases h : x < 10
    · rw [decS_small h]; intro c hc; rw [List.mem_singleton] at hc; subst hc; rw [dch_toNat h]; omega
    · rw [decS_big h]
      intro c hc
      rcases List.mem_append.1 hc with hc | hc
      · exact ih _ (by omega) c hc
      · rw [List.mem_singleton] at hc; subst hc; rw [dch_toNat (Nat.mod_lt _ (by decide))]; have := Nat.mod_lt x (show 10 > 0 by decide); omega
/-- digits alone, without needless zeros -/
def Whl (l : List UInt8) : Prop := Digs l ∧ ∃ c r, l = c :: r ∧ (r ≠ [] → c.toNat ≠ 48)
theorem decS_whl (x : Nat) : Whl (decS x) := by
  refine ⟨decS_digs x, ?_⟩
  induction x using Nat.strongRecOn with
  | ind x ih =>
    by_cases h : x < 10
    · exact ⟨_, [], decS_small h, fun h => absurd rfl h⟩
    · obtain ⟨c, r, h1, h2⟩ := ih (x / 10) (by omega)
      refine ⟨c, r ++ [dch (x % 10)], by rw [decS_big h, h1]; rfl, fun _ hc => ?_⟩
      by_cases hr : r = []
      · subst hr
        have hv := decv_decS (x / 10)
        rw [h1, ← List.nil_append [c], decv_snoc, decv_nil] at hv
        unfold digv at hv
        omega
      · exact h2 hr hc
theorem digv_lt {c : UInt8} (hc : 48 ≤ c.toNat ∧ c.toNat ≤ 57) : digv c < 10 := by unfold digv; omega
theorem dch_digv {c : UInt8} (hc : 48 ≤ c.toNat ∧ c.toNat ≤ 57) : dch (digv c) = c := by
  apply UInt8.toNat_inj.1; rw [dch_toNat (digv_lt hc)]; unfold digv; omega
theorem whl_pos {l : List UInt8} (h : Whl l) (hl : 1 < l.length) : 10 ^ (l.length - 1) ≤ decv l := by
  obtain ⟨hd, c, r, rfl, hc⟩ := h
  have hr : r ≠ [] := by intro h; subst h; simp at hl
  have := hc hr
  have h2 := hd c (by simp)
  rw [← List.singleton_append, decv_append, List.length_append]
  simp only [List.length_singleton]
  have h3 : 1 ≤ decv [c] := by rw [← List.nil_append [c], decv_snoc, decv_nil]; unfold digv; omega
  have h4 := Nat.mul_le_mul_right (10 ^ r.length) h3
  rw [show 1 + r.length - 1 = r.length by omega]
  omega
/-- the numeral is the only one -/
theorem whl_eq : ∀ (x : Nat) (l : List UInt8), Whl l → decv l = x → l = decS x := by
  intro x
  induction x using Nat.strongRecOn with
  | ind x ih =>
    intro l hw hv
    obtain ⟨hd, c, r, hl, hc⟩ := id hw
    by_cases hr : r = []
    · subst hr; subst hl
      have h2 := hd c (by simp)
      rw [← List.nil_append [c], decv_snoc, decv_nil] at hv
      have h3 := digv_lt h2
      rw [decS_small (by omega)]
      rw [show x = digv c by omega, dch_digv h2]
    · have hne : l ≠ [] := by rw [hl]; simp
      have hlen : 1 < l.length := by rw [hl]; have := List.length_pos_iff.2 hr; simp; omega
      have hp := whl_pos hw hlen
      have h10 : 10 ≤ decv l := by
        refine Nat.le_trans ?_ hp
        have := Nat.pow_le_pow_right (show 0 < 10 by decide) (show 1 ≤ l.length - 1 by omega)
        simpa using this
      have e := List.dropLast_concat_getLast hne
      have hdl : Whl l.dropLast := by
        refine ⟨fun c hc => hd c (List.dropLast_subset _ hc), c, r.dropLast, by rw [hl, List.dropLast_cons_of_ne_nil hr], fun _ => hc hr⟩
      have hg := hd (l.getLast hne) (List.getLast_mem hne)
      have hv2 := hv
      rw [← e, decv_snoc] at hv2
      have h9 := digv_lt hg
      have h5 := ih (x / 10) (by omega) l.dropLast hdl (by omega)
      rw [decS_big (by omega), ← h5, show x % 10 = digv (l.getLast hne) by omega, dch_digv hg, e]
theorem decS_length {x k : Nat} (h : x < 10 ^ k) (hk : 1 ≤ k) : (decS x).length ≤ k := by
  by_cases h1 : 1 < (decS x).length
  · have := whl_pos (decS_whl x) h1
    rw [decv_decS] at this
    have h2 := (Nat.pow_lt_pow_iff_right (show 1 < 10 by decide)).1 (Nat.lt_of_le_of_lt this h)
    omega
  · omega
theorem lt_of_decS {x k : Nat} (h : (decS x).length ≤ k) : x < 10 ^ k := by
  have := decv_lt (decS_digs x)
  rw [decv_decS] at this
  exact Nat.lt_of_lt_of_le this (Nat.pow_le_pow_right (by decide) h)
end Nm
end Go.Proofs.YtemenlcigengeaaGreatDoor
namespace Go.Proofs.YtemenlcigengeaaGreatDoor
open Go.RowKit
namespace Nm
def strOf (l : List UInt8) : ByteArray := ⟨l.toArray⟩
theorem strOf_list (l : List UInt8) : (strOf l).data.toList = l := rfl
theorem strOf_size (l : List UInt8) : (strOf l).size = l.length := rfl
theorem digs_eq_take {l : List Nat} (h : Dg l) : digs (val l) = l.take (wlen (val l)) := by
  rw [← List.reverse_reverse l] at h ⊢
  generalize l.reverse = r at *
  induction r with
  | nil => simp [val, digs_zero]
  | cons x r ih =>
    rw [List.reverse_cons] at h ⊢
    have h1 : Dg r.reverse := fun y hy => h y (by simp at hy ⊢; exact .inl hy)
    by_cases hx : x = 0
    · subst hx
      have e : val (r.reverse ++ [0]) = val r.reverse := by rw [val_append]; simp [val]
      rw [e, ih h1]
      have hle : wlen (val r.reverse) ≤ r.reverse.length := wlen_le (val_lt h1)
      rw [List.take_append_of_le_length hle]
    · have hc : Can (r.reverse ++ [x]) := fun _ => by simpa using hx
      have e := digs_val h hc
      have hw : wlen (val (r.reverse ++ [x])) = (r.reverse ++ [x]).length := by unfold wlen; rw [e]
      rw [hw, List.take_length, e]
theorem Own.num {w : World} {b : Nat} {l : List Nat} (h : Own w b l) (hd : Dg l) {c : Nat} (h1 : l.length ≤ c) (h2 : c ≤ maxLen) : N w (.slice (some ⟨b, 0, none⟩) (wlen (val l)) c) (val l) := by
  have := sl_take (h.sl h1 h2) (k := wlen (val l)) (wlen_le (val_lt hd))
  rw [wcs_take, ← digs_eq_take hd] at this
  exact this
theorem Own.ne_row {w : World} {b g base n : Nat} {l : List Nat} {c : Nat} {xs : List Value} (h : Own w b l) (hr : w.ownsRow base 5 1 (.slice (some ⟨g, 0, none⟩) n c) n xs) : b ≠ g := by
  rintro rfl
  obtain ⟨cur, rest, h, _⟩ := h
  obtain ⟨_, ⟨h2, _⟩ | ⟨g, cap, cur2, hv, _, hg, _⟩⟩ := hr
  · cases h2
  · cases hv
    rw [h] at hg
    injection hg with hg
    injection hg with _ ht
    exact absurd ht (by decide)
theorem Own.row {w w' : World} {b base n : Nat} {l : List Nat} {v : Value} {xs : List Value} (h : Own w b l) (hr : w.ownsRow base 5 1 v n xs) (hg : w.grownBy w' v.ownBlock) : Own w' b l := by
  refine h.keep (hg.block b h.lt ?_)
  obtain ⟨h1, ⟨rfl, _⟩ | ⟨g, cap, cur2, rfl, hb, hg', h3⟩⟩ := id hr
  · intro e; cases e
  · intro e
    have := h.ne_row hr
    injection e with e
    exact this e
end Nm
end Go.Proofs.YtemenlcigengeaaGreatDoor
namespace Go.Proofs.YtemenlcigengeaaGreatDoor
open Go.RowKit
namespace Nm
def numL (q : Rat) : List UInt8 := if q.num < 0 then 45 :: decS q.num.natAbs else decS q.num.natAbs
def showN (q : Rat) : ByteArray := strOf (numL q)
def showD (q : Rat) : ByteArray := strOf (decS q.den)
def Fits (q : Rat) : Prop := (decS q.num.natAbs).length ≤ 4000 ∧ (decS q.den).length ≤ 4000
instance (q : Rat) : Decidable (Fits q) := by unfold Fits; exact inferInstance
/-- the texts, and the fault -/
def outN (q : Rat) : ByteArray := if Fits q then showN q else ⟨#[]⟩
def outD (q : Rat) : ByteArray := if Fits q then showD q else ⟨#[]⟩
def outF (q : Rat) : Int := if Fits q then 0 else 2
theorem cat45 (l : List UInt8) : (⟨#[45]⟩ : ByteArray) ++ strOf l = strOf (45 :: l) := by
  apply ByteArray.ext
  rw [ByteArray.data_append]
  simp [strOf]
end Nm
end Go.Proofs.YtemenlcigengeaaGreatDoor
