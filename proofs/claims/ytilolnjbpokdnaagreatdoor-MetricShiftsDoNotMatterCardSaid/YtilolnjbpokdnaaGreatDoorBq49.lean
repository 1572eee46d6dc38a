/- How the arguments of a law, read as data, lie in memory: slices of whatever elements, field by field. Pairs and moments that are read as data. Printed by gen_lawsums.py. Arithmetic of package metric: within, whole, times, minus, over; the number with the other sign. Printed by gen_meta.py. Plain: the moments of pairs: faults, sums in their order, and how great they are. No program stands in it. Plain: moments as texts and as numbers: their faults, their sizes. No program stands in it. Rows: blocks of which all cells are known; a whole row read, and written. No program stands in it. none, add, moments of package metric. Printed by gen_mom.py. -/
import Derived.Test.YtilolnjbpokdnaaGreatDoorBq00
import Derived.ChangeArms
import Derived.DataReads
import Derived.SizedLaws
import Derived.Test.YtilolnjbpokdnaaGreatDoorProg
import Derived.Test.YtilolnjbpokdnaaGreatDoorBq50
import Derived.Test.YtilolnjbpokdnaaGreatDoorBq03
import Derived.Test.YtilolnjbpokdnaaGreatDoorBq04
import Derived.Test.YtilolnjbpokdnaaGreatDoorBq05
import Derived.Test.YtilolnjbpokdnaaGreatDoorBq06
import Derived.Test.YtilolnjbpokdnaaGreatDoorBq07
import Derived.Test.YtilolnjbpokdnaaGreatDoorBq08
import Derived.Test.YtilolnjbpokdnaaGreatDoorBq09
import Derived.Test.YtilolnjbpokdnaaGreatDoorBq10
import Derived.Test.YtilolnjbpokdnaaGreatDoorBq11
import Derived.Test.YtilolnjbpokdnaaGreatDoorBq12
import Derived.Test.YtilolnjbpokdnaaGreatDoorBq19
import Derived.Test.YtilolnjbpokdnaaGreatDoorBq20
import Derived.Test.YtilolnjbpokdnaaGreatDoorBq26
import Derived.Test.YtilolnjbpokdnaaGreatDoorBq37
import Derived.Test.YtilolnjbpokdnaaGreatDoorBq13
import Derived.Test.YtilolnjbpokdnaaGreatDoorBq14
import Derived.Test.YtilolnjbpokdnaaGreatDoorBq15
import Derived.Test.YtilolnjbpokdnaaGreatDoorBq16
import Derived.Test.YtilolnjbpokdnaaGreatDoorBq17
import Derived.Test.YtilolnjbpokdnaaGreatDoorBq18
import Derived.Test.YtilolnjbpokdnaaGreatDoorShelf
import Derived.Test.YtilolnjbpokdnaaGreatDoorBq21
import Derived.Test.YtilolnjbpokdnaaGreatDoorBq22
import Derived.Test.YtilolnjbpokdnaaGreatDoorBq23
import Derived.Test.YtilolnjbpokdnaaGreatDoorBq24
import Derived.Test.YtilolnjbpokdnaaGreatDoorBq25
import Derived.Test.YtilolnjbpokdnaaGreatDoorBq39
import Derived.Deep.WholeRow
import Derived.Laws.CopyOwn
import Derived.Test.YtilolnjbpokdnaaGreatDoorBq51
import Derived.Deep.MidRow
namespace Go.Proofs.YtilolnjbpokdnaaGreatDoor
open Go.RowKit

theorem addr_of_cell {w : World} {a : Addr} {v : Value} (h : w.cell? a = some v) : a = ⟨a.block, a.off, none⟩ := by
  cases a with | mk b o s =>
  cases s with
  | none => rfl
  | some k =>
    exfalso
    unfold World.cell? at h
    simp only at h
    split at h <;> simp at h

theorem add_add_none (b o i j : Nat) : ((⟨b, o, none⟩ : Addr).add i).add j = ⟨b, o + (i + j), none⟩ := by
  rw [add_spot, add_spot, Nat.add_assoc]

/-- The elements of a slice that is read, one after the other, out of a reading of each. -/
theorem elems_reps {α : Type} {R : α → List Value → Prop} {sz : Nat} (hs : ∀ x c, R x c → c.length = sz) (f : Nat → List Value) :
    ∀ (n : Nat), (∀ i, i < n → ∃ x, R x (f i)) → ∃ l : List α, l.length = n ∧ Reps R l ((List.range n).flatMap f) ∧ ∀ i, i < n → ∀ j u, (f i)[j]? = some u → ((List.range n).flatMap f)[i * sz + j]? = some u
  | 0, _ => ⟨[], rfl, rfl, fun i h => by omega⟩
  | n + 1, h => by
    obtain ⟨l, hl, hr, hg⟩ := elems_reps hs f n (fun i hi => h i (by omega))
    obtain ⟨x, hx⟩ := h n (by omega)
    have hlen := Reps.length hs hr
    have happ : ∀ {l : List α} {cs : List Value}, Reps R l cs → Reps R (l ++ [x]) (cs ++ f n) := by
      intro l
      induction l with
      | nil => intro cs hc; cases hc; exact ⟨f n, [], by simp, hx, rfl⟩
      | cons y l ih =>
        rintro cs ⟨c, r, rfl, h1, h2⟩
        exact ⟨c, r ++ f n, by simp, h1, ih h2⟩
    have hfm : (List.range (n + 1)).flatMap f = (List.range n).flatMap f ++ f n := by
      rw [List.range_succ, List.flatMap_append]; simp
    refine ⟨l ++ [x], by simp [hl], by rw [hfm]; exact happ hr, fun i hi j u hu => ?_⟩
    rw [hfm]
    by_cases hin : i < n
    · have := hg i hin j u hu
      rw [List.getElem?_append_left (List.getElem?_eq_some_iff.1 this).1]; exact this
    · have : i = n := by omega
      subst this
      rw [hl] at hlen
      rw [List.getElem?_append_right (by omega), ← hu]
      congr 1; omega

/-- A slice that is read as data, out of how its elements are read. -/
theorem read_slice {H : Type} {enc : TypeId × Value → H} {P : Program} {W : World} {spare : Nat → Bool} {held : Bool} {α : Type} {R : α → List Value → Prop} {sz : Nat} (hs : ∀ x c, R x c → c.length = sz)
    {t e : TypeId} {fuel : Nat} {cs : List Value} {x : DataW H × List MemPlace} (ht : P.underlying t = some (.slice e)) (hC : P.cellsOf e = sz) (hsz : 0 < sz)
    (hel : ∀ n cs' y, n < fuel → DataW.trod enc P W 0 spare held n e cs' = some y → ∃ a, R a cs')
    (h : DataW.trod enc P W 0 spare held fuel t cs = some x) : ∃ (a : Option Addr) (l : List α) (cap : Nat) (cells : List Value), cs = [.slice a l.length cap] ∧ Sl W (.slice a l.length cap) l.length cells ∧ Reps R l cells := by
  rcases DataW.trod_slice ht h with ⟨rfl, _⟩ | ⟨a, len, cap, elems, rest, n, hn, rfl, hx, hb, hl, hm, hlen, hel', _⟩
  · exact ⟨none, [], 0, [], rfl, Sl.nil W, rfl⟩
  · rw [hC] at hel'
    have hget : ∀ i, i < len → ∃ c, (∀ j u, c[j]? = some u → W.cell? ((a.add (i * sz)).add j) = some u) ∧ ∃ y, R y c := by
      intro i hi
      have h1 := hel' i hi
      have hi' : i < elems.length := by omega
      rw [List.getElem?_eq_getElem hi'] at h1
      obtain ⟨c, hc, htr⟩ := Option.bind_eq_some_iff.1 h1
      obtain ⟨_, hcl, hat⟩ := World.cells?_some hc
      refine ⟨c, fun j u hu => ?_, hel n c _ (by omega) htr⟩
      rw [hat j (by have := (List.getElem?_eq_some_iff.1 hu).1; omega)]; exact hu
    have hget' : ∀ i, ∃ c, i < len → (∀ j u, c[j]? = some u → W.cell? ((a.add (i * sz)).add j) = some u) ∧ ∃ y, R y c := by
      intro i
      by_cases hi : i < len
      · obtain ⟨c, hc⟩ := hget i hi; exact ⟨c, fun _ => hc⟩
      · exact ⟨[], fun h => (hi h).elim⟩
    obtain ⟨f, hf⟩ := Classical.axiomOfChoice hget'
    obtain ⟨l, hll, hr, hg⟩ := elems_reps hs f len (fun i hi => (hf i hi).2)
    refine ⟨some a, l, cap, _, by rw [hll], ⟨_, _, rfl, by omega, hm, (fun h => by cases h), fun i u hu => ?_⟩, hr⟩
    have hrl := Reps.length hs hr
    have hi : i < len * sz := by have := (List.getElem?_eq_some_iff.1 hu).1; rw [hll] at hrl; omega
    have hid : i / sz < len := Nat.div_lt_of_lt_mul (by rw [Nat.mul_comm]; exact hi)
    obtain ⟨y, hy⟩ := (hf _ hid).2
    have hfl := hs _ _ hy
    have hj : i % sz < (f (i / sz)).length := by rw [hfl]; exact Nat.mod_lt _ hsz
    have h2 := hg _ hid _ _ (List.getElem?_eq_getElem hj)
    rw [Nat.div_add_mod' i sz, hu] at h2
    have hcell := (hf _ hid).1 _ _ (List.getElem?_eq_getElem hj)
    have h0 : 0 < len := Nat.lt_of_le_of_lt (Nat.zero_le _) hid
    obtain ⟨y0, hy0⟩ := (hf 0 h0).2
    have hj0 : 0 < (f 0).length := by rw [hs _ _ hy0]; exact hsz
    have hc0 := (hf 0 h0).1 _ _ (List.getElem?_eq_getElem hj0)
    rw [Nat.zero_mul] at hc0
    have ha : a = ⟨a.block, a.off, none⟩ := by
      have e : (a.add 0).add 0 = a := by simp [Addr.add]
      rw [e] at hc0
      exact addr_of_cell hc0
    refine ⟨a.block, a.off, by rw [← ha], ?_⟩
    rw [ha, add_add_none, Nat.div_add_mod' i sz] at hcell
    rw [hcell, Option.some.inj h2]

end Go.Proofs.YtilolnjbpokdnaaGreatDoor
namespace Go.Proofs.YtilolnjbpokdnaaGreatDoor
open Go.RowKit
theorem read_Pair {H : Type} {enc : TypeId × Value → H} {W : World} {spare : Nat → Bool} {held : Bool} (fuel : Nat) (cs : List Value) (x : DataW H × List MemPlace) (h : DataW.trod enc Tryz.prog W 0 spare held fuel 53 cs = some x) :
  ∃ (x0 : Int) (x1 : Int), cs = [.int .i64 x0, .int .i64 x1] ∧ i64ok x0 ∧ i64ok x1 := by
 obtain ⟨xs, n, rfl, _, hlen, hxl, hf⟩ := DataW.trod_struct Tryz.underlying53 h
 rw [show Tryz.prog.cellsOf 53 = 2 by kernel_rfl] at hlen
 obtain ⟨c0, r0, rfl, l0⟩ := uncons hlen
 obtain ⟨c1, r1, rfl, l1⟩ := uncons l0
 obtain rfl := List.length_eq_zero_iff.1 l1
 have hx : ∀ i, i < 2 → ∃ y, xs[i]? = some y := fun i hi => ⟨_, List.getElem?_eq_getElem (by rw [hxl]; exact hi)⟩
 have f0 : DataW.trod enc Tryz.prog W 0 spare held n 3 (List.take (Tryz.prog.cellsOf 3) (List.drop 0 [c0, c1])) = xs[0]? := hf 0 _ rfl
 rw [show Tryz.prog.cellsOf 3 = 1 by kernel_rfl] at f0
 simp only [List.drop, List.take] at f0
 obtain ⟨y0, e0⟩ := hx 0 (by omega)
 rw [e0] at f0
 obtain ⟨x0, h0, _, w0⟩ := DataW.trod_int Tryz.underlying3 f0
 have f1 : DataW.trod enc Tryz.prog W 0 spare held n 3 (List.take (Tryz.prog.cellsOf 3) (List.drop 1 [c0, c1])) = xs[1]? := hf 1 _ rfl
 rw [show Tryz.prog.cellsOf 3 = 1 by kernel_rfl] at f1
 simp only [List.drop, List.take] at f1
 obtain ⟨y1, e1⟩ := hx 1 (by omega)
 rw [e1] at f1
 obtain ⟨x1, h1, _, w1⟩ := DataW.trod_int Tryz.underlying3 f1
 cases h0
 cases h1
 exact ⟨x0, x1, rfl, i64ok_of w0, i64ok_of w1⟩
end Go.Proofs.YtilolnjbpokdnaaGreatDoor
namespace Go.Proofs.YtilolnjbpokdnaaGreatDoor
open Go.RowKit
namespace Nm
theorem mwithin_at (n low high : Int) (w : World) : Calls Tryz.prog 69 #[.int .i64 n, .int .i64 low, .int .i64 high] w fun e w' => e = .returned (.bool (decide (low ≤ n) && decide (n ≤ high))) ∧ w = w' := by
 by_cases h : low ≤ n ∧ n ≤ high
 ·rw [decide_eq_true h.1, decide_eq_true h.2]; exact mwithin_yes n low high h.1 h.2 w
 ·have e : (decide (low ≤ n) && decide (n ≤ high)) = false := by
   rw [Bool.and_eq_false_iff, decide_eq_false_iff_not, decide_eq_false_iff_not]; omega
  rw [e]; exact mwithin_no n low high (by omega) w
theorem i64_sm {a : Int} (h1 : -9223372036854775808 ≤ a) (h2 : a ≤ 9223372036854775807) : Sm (a : Rat) :=
 Ln.sm (a := 20) (b := 0) (Ln.int (by omega)) (by omega) (by omega)
set_option maxRecDepth 100000 in
set_option maxHeartbeats 8000000 in
theorem mtimes_at (a b : Int) (h1 : -9223372036854775808 ≤ a) (h2 : a ≤ 9223372036854775807) (h3 : -9223372036854775808 ≤ b) (h4 : b ≤ 9223372036854775807) (w : World) : Calls Tryz.prog 73 #[.int .i64 a, .int .i64 b] w (XPost w ((a : Rat) * (b : Rat))) := by
 go_enter Tryz.func73, Tryz.ntmps73
 go_upto_region 1 with (fail)
 refine wp_box1r fun w1' hsz hbW hC hF => ?_
 clear hsz
 have HB_o := Lib.hid hC
 have HF_o := Lib.hid hF
 have HW := Lib.hid hbW
 clear hbW hC hF
 go_wp2_with fail
 refine (mwhole_at a h1 h2 w1').mono ?_
 rintro e w2' ⟨v1, rfl, hv1, hbz⟩
 have HA := Lib.hid hv1
 clear hv1
 replace HF_o := Lib.hid (HF_o.out.ext HB_o.out hbz)
 replace HB_o := Lib.hid (HB_o.out.ext hbz)
 replace HW := Lib.hid (ext_trans HW.out hbz)
 clear hbz
 go_wp2_with fail
 refine (mwhole_at b h3 h4 w2').mono ?_
 rintro e w3' ⟨v2, rfl, hv2, hbz⟩
 have HB := Lib.hid hv2
 clear hv2
 replace HF_o := Lib.hid (HF_o.out.ext HB_o.out hbz)
 replace HB_o := Lib.hid (HB_o.out.ext hbz)
 replace HA := Lib.hid (HA.out.ext hbz)
 replace HW := Lib.hid (ext_trans HW.out hbz)
 clear hbz
 go_wp2_with fail
 refine (xtimes_at (a : Rat) (b : Rat) _ _ w3' HA.out HB.out (i64_sm h1 h2).1 (i64_sm h1 h2).2 (i64_sm h3 h4).1 (i64_sm h3 h4).2).mono ?_
 rintro e w4' ⟨v3, rfl, hv3, hbz⟩
 obtain ⟨p1, g1, p2, g2, rfl, k1, k2⟩ := hv3.open_
 replace HF_o := Lib.hid (HF_o.out.ext HB_o.out hbz)
 replace HB_o := Lib.hid (HB_o.out.ext hbz)
 replace HA := Lib.hid (HA.out.ext hbz)
 replace HB := Lib.hid (HB.out.ext hbz)
 replace HW := Lib.hid (ext_trans HW.out hbz)
 clear hbz
 replace k1 := k1
 obtain ⟨z, hz⟩ : ∃ z : Rat, (a : Rat) * (b : Rat) = z := ⟨_, rfl⟩
 rw [hz] at k1 k2 ⊢
 have HZ := Lib.hid hz
 clear hv3 hz
 have c_o_0 : w4'.cell? ⟨w.heap.size, 0, none⟩ = some (.bool false) := HB_o.out.2 0
 have c_o_1 : w4'.cell? ⟨w.heap.size, 1, none⟩ = some (.slice none 0 0) := HB_o.out.2 1
 have c_o_2 : w4'.cell? ⟨w.heap.size, 2, none⟩ = some (.slice none 0 0) := HB_o.out.2 2
 have f_o_0 := HF_o.out 0
 have f_o_1 := HF_o.out 1
 have f_o_2 := HF_o.out 2
 obtain ⟨n1, n2, n3, z0, z1, z2⟩ := res3 (decide (z.num < 0)) HB_o.out k1 k2 HW.out (by omega)
 have HK := Lib.hid (And.intro n1 (And.intro n2 n3))
 clear n1 n2 n3 k1 k2
 go_wp2
 exact bodyPost_ret (v := .agg #[.bool (decide (z.num < 0)), .slice p1 (digs z.num.natAbs).length g1, .slice p2 (digs z.den).length g2]) (by simp [results, Tryz.results73, go_sem, z0, z1, z2]) rfl ⟨_, rfl, (by rw [HZ.out]; exact ⟨_, _, rfl, HK.out.1, HK.out.2.1⟩), HK.out.2.2⟩
theorem mtimes_is (a b : Int) (q : Rat) (hq : (a : Rat) * (b : Rat) = q) (h1 : -9223372036854775808 ≤ a) (h2 : a ≤ 9223372036854775807) (h3 : -9223372036854775808 ≤ b) (h4 : b ≤ 9223372036854775807) (w : World) : Calls Tryz.prog 73 #[.int .i64 a, .int .i64 b] w (XPost w q) := by
 subst hq; exact mtimes_at a b h1 h2 h3 h4 w
end Nm
end Go.Proofs.YtilolnjbpokdnaaGreatDoor
namespace Go.Proofs.YtilolnjbpokdnaaGreatDoor
open Go.RowKit
namespace Nm
def pxL (p : PX) : List Value := [.int .i64 p.x, .int .i64 p.y]
def badX : List PX → Bool
  | [] => false
  | p :: r => if okP p then badX r else true
theorem badX_step {l : List PX} {k : Nat} (h : k < l.length) : badX (l.drop k) = if okP l[k] then badX (l.drop (k + 1)) else true := by
  rw [List.drop_eq_getElem_cons h]; rfl
def sumF (l : List PX) : Int := if 20000 < l.length then 2 else if badX l = true then 1 else 0
def m5L (m : M5) : List PX → M5
  | [] => m
  | p :: r => m5L (m5s m p) r
theorem m5L_step {l : List PX} {k : Nat} (h : k < l.length) (m : M5) : m5L m (l.drop k) = m5L (m5s m l[k]) (l.drop (k + 1)) := by
  rw [List.drop_eq_getElem_cons h]; rfl
/-- the cells of moments -/
def moC (n : Int) (m : M5) : List Value := [.int .i64 n, .string (showN (m.x : Rat)), .string (showD (m.x : Rat)), .string (showN (m.y : Rat)), .string (showD (m.y : Rat)), .string (showN (m.xx : Rat)), .string (showD (m.xx : Rat)), .string (showN (m.yy : Rat)), .string (showD (m.yy : Rat)), .string (showN (m.xy : Rat)), .string (showD (m.xy : Rat))]
def moZ : List Value := [.int .i64 0, .string ⟨#[]⟩, .string ⟨#[]⟩, .string ⟨#[]⟩, .string ⟨#[]⟩, .string ⟨#[]⟩, .string ⟨#[]⟩, .string ⟨#[]⟩, .string ⟨#[]⟩, .string ⟨#[]⟩, .string ⟨#[]⟩]
/-- what Sum gives -/
def sumV5 (l : List PX) : List Value := if sumF l = 0 then moC (l.length : Int) (m5L m5z l) else moZ
theorem badX_all : ∀ {l : List PX}, badX l = false → ∀ p ∈ l, okP p = true
  | [], _, p, hp => by cases hp
  | q :: r, h, p, hp => by
    by_cases ho : okP q = true
    · have e : badX (q :: r) = badX r := if_pos ho
      rw [e] at h
      rcases List.mem_cons.1 hp with rfl | hp
      · exact ho
      · exact badX_all h p hp
    · have e : badX (q :: r) = true := if_neg ho
      rw [e] at h; cases h
end Nm
end Go.Proofs.YtilolnjbpokdnaaGreatDoor
namespace Go.Proofs.YtilolnjbpokdnaaGreatDoor
open Go.RowKit
namespace Nm
def m5q (m : M5) : Q5 := ⟨(m.x : Rat), (m.y : Rat), (m.xx : Rat), (m.yy : Rat), (m.xy : Rat)⟩
theorem lgB_no {q : Rat} (h : q.num.natAbs < 10 ^ 100) : lgB q = false := by
  unfold lgB
  have e := (cut_show q).2
  have l1 : (cutS (showN q)).data.toList.length = (cutS (showN q)).size := Array.length_toList
  rw [e] at l1
  have := decS_length h (by decide)
  exact decide_eq_false (by omega)
theorem ln_lgB {a b : Nat} {q : Rat} (h : Ln a b q) (ha : a < 100) : lgB q = false := lgB_no (Nat.lt_of_le_of_lt h.1 (Nat.pow_lt_pow_right (by decide) ha))
theorem M5Ln.lg {m : M5} (h : M5Ln m) : lgL (m5q m) = false := by
  unfold lgL m5q Q5.l
  simp only [List.any_cons, List.any_nil, Bool.or_false]
  rw [ln_lgB h.x (by decide), ln_lgB h.y (by decide), ln_lgB h.xx (by decide), ln_lgB h.yy (by decide), ln_lgB h.xy (by decide)]
  rfl
end Nm
end Go.Proofs.YtilolnjbpokdnaaGreatDoor
namespace Go.Proofs.YtilolnjbpokdnaaGreatDoor
open Go.RowKit
namespace Nt
/-- laws of walks: a result's row is known whole -/
theorem wp_row1 {P : Program} {c : Code} {Q : Exit → Act → World → Prop} {a : Act} {w : World} {A : Array Value} {t : TypeId}
    (h : ∀ W, Below w.heap.size w W → RH W w.heap.size A t → c.wp P Q a W) : c.wp P Q a (w.alloc (.cells A t)) := h _ (ext_alloc _ _) (RH.new _ _ _)
end Nt
open Nt (RH RH.cell RH.other)
end Go.Proofs.YtilolnjbpokdnaaGreatDoor
namespace Go.Proofs.YtilolnjbpokdnaaGreatDoor
open Go.RowKit
namespace Nm
open _root_.Go.Proofs.YtilolnjbpokdnaaGreatDoor.Nt (RH RH.cell RH.box RH.row RH.lt RH.new RH.ext RH.fre RH.set RH.other RH.row_other store_cells)
set_option maxRecDepth 100000 in
set_option maxHeartbeats 16000000 in
theorem none_at (z : Rat) (hz : ((0 : Int) : Rat) = z) (w : World) : Calls Tryz.prog 70 #[] w (SmPost w 0 ⟨z, z, z, z, z⟩) := by
 have HZQ := Lib.hid hz
 clear hz
 go_enter Tryz.func70, Tryz.ntmps70
 go_upto_region 1 with (fail)
 refine wp_rows1 fun w1' hbz hR0 => ?_
 have HR_o : Hid (RH w1' w.heap.size (smA (0) y5z) 110) := Lib.hid hR0
 have HW := Lib.hid hbz
 clear hbz hR0
 go_wp2_with fail
 refine (mwhole_is 0 z HZQ.out (by decide) (by decide) w1').mono ?_
 rintro e w2' ⟨v1, rfl, hv1, hbz⟩
 obtain ⟨t0, rfl, hx0⟩ := hv1.y3
 clear hv1
 replace HR_o := Lib.hid (HR_o.out.ext hbz)
 replace HW := Lib.hid (ext_trans HW.out hbz)
 clear hbz
 have HX0 : Hid (XR w2' (y3V t0) z) := Lib.hid hx0
 clear hx0
 go_wp2_with fail
 refine (mwhole_is 0 z HZQ.out (by decide) (by decide) w2').mono ?_
 rintro e w3' ⟨v1, rfl, hv1, hbz⟩
 obtain ⟨t1, rfl, hx1⟩ := hv1.y3
 clear hv1
 replace HR_o := Lib.hid (HR_o.out.ext hbz)
 replace HX0 := Lib.hid (HX0.out.ext hbz)
 replace HW := Lib.hid (ext_trans HW.out hbz)
 clear hbz
 have HX1 : Hid (XR w3' (y3V t1) z) := Lib.hid hx1
 clear hx1
 go_wp2_with fail
 refine (mwhole_is 0 z HZQ.out (by decide) (by decide) w3').mono ?_
 rintro e w4' ⟨v1, rfl, hv1, hbz⟩
 obtain ⟨t2, rfl, hx2⟩ := hv1.y3
 clear hv1
 replace HR_o := Lib.hid (HR_o.out.ext hbz)
 replace HX0 := Lib.hid (HX0.out.ext hbz)
 replace HX1 := Lib.hid (HX1.out.ext hbz)
 replace HW := Lib.hid (ext_trans HW.out hbz)
 clear hbz
 have HX2 : Hid (XR w4' (y3V t2) z) := Lib.hid hx2
 clear hx2
 go_wp2_with fail
 refine (mwhole_is 0 z HZQ.out (by decide) (by decide) w4').mono ?_
 rintro e w5' ⟨v1, rfl, hv1, hbz⟩
 obtain ⟨t3, rfl, hx3⟩ := hv1.y3
 clear hv1
 replace HR_o := Lib.hid (HR_o.out.ext hbz)
 replace HX0 := Lib.hid (HX0.out.ext hbz)
 replace HX1 := Lib.hid (HX1.out.ext hbz)
 replace HX2 := Lib.hid (HX2.out.ext hbz)
 replace HW := Lib.hid (ext_trans HW.out hbz)
 clear hbz
 have HX3 : Hid (XR w5' (y3V t3) z) := Lib.hid hx3
 clear hx3
 go_wp2_with fail
 refine (mwhole_is 0 z HZQ.out (by decide) (by decide) w5').mono ?_
 rintro e w6' ⟨v1, rfl, hv1, hbz⟩
 obtain ⟨t4, rfl, hx4⟩ := hv1.y3
 clear hv1
 replace HR_o := Lib.hid (HR_o.out.ext hbz)
 replace HX0 := Lib.hid (HX0.out.ext hbz)
 replace HX1 := Lib.hid (HX1.out.ext hbz)
 replace HX2 := Lib.hid (HX2.out.ext hbz)
 replace HX3 := Lib.hid (HX3.out.ext hbz)
 replace HW := Lib.hid (ext_trans HW.out hbz)
 clear hbz
 have HX4 : Hid (XR w6' (y3V t4) z) := Lib.hid hx4
 clear hx4
 go_wp2_with (first | (refine wpList_store_row rfl _ _ _ rfl w.heap.size (smA (0) ⟨t0, t1, t2, t3, t4⟩) rfl rfl _ _ HR_o.out (sm_info _ _) rfl (sm_all _ _) ?_))
 obtain ⟨w7', hX⟩ : ∃ Z9, Z9 = w6'.setRow w.heap.size (smA (0) ⟨t0, t1, t2, t3, t4⟩) := ⟨_, rfl⟩
 rw [← hX]
 have n_o : Hid (RH w7' w.heap.size (smA (0) ⟨t0, t1, t2, t3, t4⟩) 110) := by rw [hX]; exact Lib.hid (HR_o.out.row _)
 have HK_ : ∀ p : Addr, p.block ≠ w.heap.size → w7'.cell? p = w6'.cell? p := fun p hp => by rw [hX]; exact cell_setRow_other _ _ _ p hp
 have n_HX0 : Hid (XR w7' (y3V t0) z) := Lib.hid (HX0.out.far HR_o.out.box (sm_nw _ _) HK_)
 have n_HX1 : Hid (XR w7' (y3V t1) z) := Lib.hid (HX1.out.far HR_o.out.box (sm_nw _ _) HK_)
 have n_HX2 : Hid (XR w7' (y3V t2) z) := Lib.hid (HX2.out.far HR_o.out.box (sm_nw _ _) HK_)
 have n_HX3 : Hid (XR w7' (y3V t3) z) := Lib.hid (HX3.out.far HR_o.out.box (sm_nw _ _) HK_)
 have n_HX4 : Hid (XR w7' (y3V t4) z) := Lib.hid (HX4.out.far HR_o.out.box (sm_nw _ _) HK_)
 have nW : Hid (Below w.heap.size w w7') := by rw [hX]; exact Lib.hid (below_setRow HW.out (show w.heap.size ≤ w.heap.size by omega) _)
 clear hX HK_ HW HR_o HX0 HX1 HX2 HX3 HX4
 have HR_o := n_o; clear n_o
 have HX0 := n_HX0; clear n_HX0
 have HX1 := n_HX1; clear n_HX1
 have HX2 := n_HX2; clear n_HX2
 have HX3 := n_HX3; clear n_HX3
 have HX4 := n_HX4; clear n_HX4
 have HW := nW; clear nW
 exact bodyPost_ret (v := .agg (smA (0) ⟨t0, t1, t2, t3, t4⟩)) (results_cell_row rfl _ _ _ _ _ _ _ rfl HR_o.out Tryz.underlying110 rfl (sm_info _ _)) rfl ⟨_, rfl, ⟨HX0.out, HX1.out, HX2.out, HX3.out, HX4.out⟩, HW.out⟩
end Nm
end Go.Proofs.YtilolnjbpokdnaaGreatDoor
