/- Ratios, tests and trials that are read as data. size, XratInt, CheckRatio, XratOf, Cmp of package value. TrimPrefix of package strings at "-"; long, whole and readMiss of package decide. Whole, Plus, Times, Minus, Over, Less of the references: on numbers that are short enough. The chances that a test is decided by so many pairs: plain mathematics. No program stands in it. Rows: blocks of which all cells are known; a whole row read, and written. No program stands in it. Arrays of arrays, each in one block: grids of ratios and of bools, nine by nine; a whole grid read, and written. -/
import Derived.Test.YtilolnjbpokdnaaGreatDoorBq01
import Derived.Test.YtilolnjbpokdnaaGreatDoorBq00
import Derived.Test.YtilolnjbpokdnaaGreatDoorProg
import Derived.Test.YtilolnjbpokdnaaGreatDoorBq19
import Derived.Test.YtilolnjbpokdnaaGreatDoorBq28
import Derived.Test.YtilolnjbpokdnaaGreatDoorBq03
import Derived.Test.YtilolnjbpokdnaaGreatDoorBq04
import Derived.Test.YtilolnjbpokdnaaGreatDoorBq05
import Derived.Test.YtilolnjbpokdnaaGreatDoorBq06
import Derived.Test.YtilolnjbpokdnaaGreatDoorBq07
import Derived.Test.YtilolnjbpokdnaaGreatDoorBq08
import Derived.Test.YtilolnjbpokdnaaGreatDoorBq09
import Derived.Test.YtilolnjbpokdnaaGreatDoorBq10
import Derived.Test.YtilolnjbpokdnaaGreatDoorBq11
import Derived.Test.YtilolnjbpokdnaaGreatDoorBq12
import Derived.Test.YtilolnjbpokdnaaGreatDoorBq27
import Derived.Test.YtilolnjbpokdnaaGreatDoorBq26
import Derived.Test.YtilolnjbpokdnaaGreatDoorBq29
import Derived.Test.YtilolnjbpokdnaaGreatDoorBq13
import Derived.Test.YtilolnjbpokdnaaGreatDoorBq14
import Derived.Test.YtilolnjbpokdnaaGreatDoorBq15
import Derived.Test.YtilolnjbpokdnaaGreatDoorBq16
import Derived.Test.YtilolnjbpokdnaaGreatDoorBq17
import Derived.Test.YtilolnjbpokdnaaGreatDoorBq18
import Derived.Test.YtilolnjbpokdnaaGreatDoorShelf
import Derived.Test.YtilolnjbpokdnaaGreatDoorBq20
import Derived.Test.YtilolnjbpokdnaaGreatDoorBq21
import Derived.Test.YtilolnjbpokdnaaGreatDoorBq22
import Derived.Test.YtilolnjbpokdnaaGreatDoorBq23
import Derived.Test.YtilolnjbpokdnaaGreatDoorBq24
import Derived.Test.YtilolnjbpokdnaaGreatDoorBq25
import Derived.Lib.Hide
import Derived.Deep.WholeRow
import Derived.Laws.CopyOwn
namespace Go.Proofs.YtilolnjbpokdnaaGreatDoor
open Go.RowKit
theorem read_Test {H : Type} {enc : TypeId × Value → H} {W : World} {spare : Nat → Bool} {held : Bool} (fuel : Nat) (cs : List Value) (x : DataW H × List MemPlace) (h : DataW.trod enc Tryz.prog W 0 spare held fuel 25 cs = some x) :
    ∃ (x0 : Int) (x1 : Int) (x2 : ByteArray) (x3 : ByteArray), cs = [.int .i64 x0, .int .i64 x1, .string x2, .string x3] ∧ i64ok x0 ∧ i64ok x1 ∧ x2.size ≤ maxLen ∧ x3.size ≤ maxLen := by
  obtain ⟨xs, n, rfl, _, hlen, hxl, hf⟩ := DataW.trod_struct Tryz.underlying25 h
  rw [show Tryz.prog.cellsOf 25 = 4 by kernel_rfl] at hlen
  obtain ⟨c0, r0, rfl, l0⟩ := uncons hlen
  obtain ⟨c1, r1, rfl, l1⟩ := uncons l0
  obtain ⟨c2, r2, rfl, l2⟩ := uncons l1
  obtain ⟨c3, r3, rfl, l3⟩ := uncons l2
  obtain rfl := List.length_eq_zero_iff.1 l3
  have hx : ∀ i, i < 3 → ∃ y, xs[i]? = some y := fun i hi => ⟨_, List.getElem?_eq_getElem (by rw [hxl]; exact hi)⟩
  have f0 : DataW.trod enc Tryz.prog W 0 spare held n 3 (List.take (Tryz.prog.cellsOf 3) (List.drop 0 [c0, c1, c2, c3])) = xs[0]? := hf 0 _ rfl
  rw [show Tryz.prog.cellsOf 3 = 1 by kernel_rfl] at f0
  simp only [List.drop, List.take] at f0
  obtain ⟨y0, e0⟩ := hx 0 (by omega)
  rw [e0] at f0
  obtain ⟨x0, h0, _, w0⟩ := DataW.trod_int Tryz.underlying3 f0
  have f1 : DataW.trod enc Tryz.prog W 0 spare held n 3 (List.take (Tryz.prog.cellsOf 3) (List.drop 1 [c0, c1, c2, c3])) = xs[1]? := hf 1 _ rfl
  rw [show Tryz.prog.cellsOf 3 = 1 by kernel_rfl] at f1
  simp only [List.drop, List.take] at f1
  obtain ⟨y1, e1⟩ := hx 1 (by omega)
  rw [e1] at f1
  obtain ⟨x1, h1, _, w1⟩ := DataW.trod_int Tryz.underlying3 f1
  have f2 : DataW.trod enc Tryz.prog W 0 spare held n 23 (List.take (Tryz.prog.cellsOf 23) (List.drop 2 [c0, c1, c2, c3])) = xs[2]? := hf 2 _ rfl
  rw [show Tryz.prog.cellsOf 23 = 2 by kernel_rfl] at f2
  simp only [List.drop, List.take] at f2
  obtain ⟨y2, e2⟩ := hx 2 (by omega)
  rw [e2] at f2
  obtain ⟨x2, x3, h2, w2, w3⟩ := read_Ratio _ _ _ f2
  cases h0
  cases h1
  cases h2
  exact ⟨x0, x1, x2, x3, rfl, i64ok_of w0, i64ok_of w1, w2, w3⟩
end Go.Proofs.YtilolnjbpokdnaaGreatDoor
namespace Go.Proofs.YtilolnjbpokdnaaGreatDoor
open Go.RowKit
namespace Nm
theorem cmpQ_range (x y : Rat) : cmpQ x y = -1 ∨ cmpQ x y = 0 ∨ cmpQ x y = 1 := by unfold cmpQ cmpZ; split <;> (try split) <;> simp
end Nm
end Go.Proofs.YtilolnjbpokdnaaGreatDoor
namespace Go.Proofs.YtilolnjbpokdnaaGreatDoor
open Go.RowKit
namespace Nm
theorem miss_small {n d : ByteArray} (h : rF n d = 0) : wlen (rQ n d).num.natAbs ≤ 4000 ∧ wlen (rQ n d).den ≤ 4000 := by
  obtain ⟨_, h2, h3, h4, h5, h6, h7, _⟩ := rQ_facts h
  have e1 : (cutS n).data.toList.length = (cutS n).size := Array.length_toList
  have e2 : d.data.toList.length = d.size := Array.length_toList
  refine ⟨?_, ?_⟩
  · rw [h2, sgn_natAbs]; have := wlen_dec (decv_lt (whole_whl h4).1); omega
  · rw [h3]; have := wlen_dec (decv_lt (whole_whl h5).1); omega
def longB (n d : ByteArray) : Bool := decide (100 < (cutS n).size) || decide (100 < d.size)
set_option maxHeartbeats 2000000 in
theorem long_at (n d : ByteArray) (hn : n.size ≤ maxLen) (hd : d.size ≤ maxLen) (w : World) : Calls Tryz.prog 121 #[.agg #[.string n, .string d]] w (BPost w (longB n d)) := by
  have hc := cutS_size n
  have hn' := hn
  have hd' := hd
  unfold maxLen at hn' hd'
  by_cases h1 : 100 < (cutS n).size
  · have hb : longB n d = true := by simp [longB, h1]
    rw [hb]
    clear hb
    go_enter Tryz.func121, Tryz.ntmps121
    go_wp2_with fail
    refine (trimPrefix_at n hn _).mono ?_
    rintro e w' ⟨rfl, rfl⟩
    go_wp2
    go_ret
    exact ⟨rfl, by go_grown⟩
  · by_cases h2 : 100 < d.size
    · have hb : longB n d = true := by simp [longB, h2]
      have h3 : (decide ((100 : Int) < ((cutS n).size : Int))) = false := decide_eq_false (by omega)
      have h4 : (decide (100 < (cutS n).size)) = false := decide_eq_false (by omega)
      have h5 : (decide ((100 : Int) < (d.size : Int))) = true := decide_eq_true (by omega)
      rw [hb]
      clear hb h1
      go_enter Tryz.func121, Tryz.ntmps121
      go_wp2_with fail
      refine (trimPrefix_at n hn _).mono ?_
      rintro e w' ⟨rfl, rfl⟩
      go_wp2
      go_ret
      exact ⟨rfl, by go_grown⟩
    · have hb : longB n d = false := by simp [longB]; omega
      have h3 : (decide ((100 : Int) < ((cutS n).size : Int))) = false := decide_eq_false (by omega)
      have h4 : (decide (100 < (cutS n).size)) = false := decide_eq_false (by omega)
      have h5 : (decide ((100 : Int) < (d.size : Int))) = false := decide_eq_false (by omega)
      have h6 : (decide (100 < d.size)) = false := decide_eq_false (by omega)
      rw [hb]
      clear hb h1 h2
      go_enter Tryz.func121, Tryz.ntmps121
      go_wp2_with fail
      refine (trimPrefix_at n hn _).mono ?_
      rintro e w' ⟨rfl, rfl⟩
      go_wp2
      go_ret
      exact ⟨rfl, by go_grown⟩
theorem whole_at (n : Int) (h1 : -9223372036854775808 ≤ n) (h2 : n ≤ 9223372036854775807) (w : World) : Calls Tryz.prog 115 #[.int .i64 n] w (XPost w (n : Rat)) := by
  go_enter Tryz.func115, Tryz.ntmps115
  go_upto_region 1 with (fail)
  refine wp_box1r fun W hsz hbW hC hF => ?_
  clear hsz
  go_wp2_with fail
  refine (xratInt_at n h1 h2 _).mono ?_
  rintro e w2 ⟨v, rfl, hx, hb⟩
  obtain ⟨v1, v2, rfl, hn1', hn2'⟩ := hx
  have hn1 : N w2 v1 n.natAbs := hn1'
  have hn2 : N w2 v2 1 := hn2'
  obtain ⟨p1, c5, rfl, _⟩ := hn1.open_
  obtain ⟨p2, c6, rfl, _⟩ := hn2.open_
  clear hn1' hn2'
  rw [show decide ((n : Rat).num < 0) = decide (n < 0) from rfl]
  have hC3 := hC.ext hb
  have hF3 := hF.ext hC hb
  have hbw := ext_trans hbW hb
  have hle : w.heap.size ≤ w.heap.size := Nat.le_refl _
  have g0 := hF3 0
  have g1 := hF3 1
  have g2 := hF3 2
  obtain ⟨r0, r1, r2⟩ := boxX hC3
  obtain ⟨k1, k2, k3, z0, z1, z2⟩ := res3 (decide (n < 0)) hC3 hn1 hn2 hbw hle
  have HK := Lib.hid (And.intro k1 (And.intro k2 k3))
  clear k1 k2 k3
  go_wp2
  exact bodyPost_ret (v := .agg #[.bool (decide (n < 0)), .slice p1 (digs n.natAbs).length c5, .slice p2 (digs 1).length c6]) (by simp [results, Tryz.results115, go_sem, z0, z1, z2]) rfl ⟨_, rfl, ⟨_, _, rfl, HK.out.1, HK.out.2.1⟩, HK.out.2.2⟩
end Nm
end Go.Proofs.YtilolnjbpokdnaaGreatDoor
namespace Go.Proofs.YtilolnjbpokdnaaGreatDoor
open Go.RowKit
namespace Nm
theorem cmpQ_ge {x y : Rat} : 0 ≤ cmpQ x y ↔ y ≤ x := by
  rw [← Rat.not_lt, ← cmpQ_neg]; omega
theorem cmpQ_m1 {x y : Rat} : cmpQ x y = -1 ↔ x < y := by
  rw [← cmpQ_neg]
  rcases cmpQ_range x y with h | h | h <;> omega
end Nm
namespace Nt
open _root_.Go.Proofs.YtilolnjbpokdnaaGreatDoor.Nm (showN showD Fits show_size op_show ord_show inv_show quo_one fits_int fits_neg cmpQ cmpQ_neg i64_ten)
end Nt
end Go.Proofs.YtilolnjbpokdnaaGreatDoor
namespace Go.Proofs.YtilolnjbpokdnaaGreatDoor
namespace Ch
def sumL : List Rat → Rat
  | [] => 0
  | x :: l => x + sumL l
theorem sumL_append (l m : List Rat) : sumL (l ++ m) = sumL l + sumL m := by
  induction l with
  | nil => simp [sumL, Rat.zero_add]
  | cons x l ih => simp only [List.cons_append, sumL, ih, Rat.add_assoc]
theorem sumL_perm {l m : List Rat} (h : l.Perm m) : sumL l = sumL m := by
  induction h with
  | nil => rfl
  | cons x _ ih => simp only [sumL, ih]
  | swap x y l => simp only [sumL]; rw [← Rat.add_assoc, ← Rat.add_assoc, Rat.add_comm x y]
  | trans _ _ h1 h2 => exact h1.trans h2
theorem sumL_zero {l : List Rat} (h : ∀ x ∈ l, x = 0) : sumL l = 0 := by
  induction l with
  | nil => rfl
  | cons x l ih => rw [sumL, h x (by simp), ih (fun y hy => h y (by simp [hy])), Rat.zero_add]
abbrev Pt := Nat × Nat
/-- where a pair leads, and with which probability -/
def tr (u d e : Rat) (a : Pt) : List (Pt × Rat) := [((a.1 + 1, a.2), u), ((a.1, a.2 + 1), d), (a, e)]
/-- what comes from a place -/
def out (u d e : Rat) (f : Pt → Rat) (a : Pt) : List (Pt × Rat) := (tr u d e a).map fun c => (c.1, f a * c.2)
/-- what arrives at a place -/
def at_ (C : List (Pt × Rat)) (t : Pt) : Rat := sumL ((C.filter fun c => decide (c.1 = t)).map (·.2))
/-- what arrives at places that are decided -/
def dec_ (dec : Pt → Bool) (C : List (Pt × Rat)) : Rat := sumL ((C.filter fun c => dec c.1).map (·.2))
theorem at_snoc (C : List (Pt × Rat)) (c : Pt × Rat) (t : Pt) : at_ (C ++ [c]) t = if c.1 = t then at_ C t + c.2 else at_ C t := by
  unfold at_
  rw [List.filter_append, List.map_append, sumL_append]
  by_cases h : c.1 = t <;> simp [h, sumL, Rat.add_zero]
theorem dec_snoc (dec : Pt → Bool) (C : List (Pt × Rat)) (c : Pt × Rat) : dec_ dec (C ++ [c]) = if dec c.1 then dec_ dec C + c.2 else dec_ dec C := by
  unfold dec_
  rw [List.filter_append, List.map_append, sumL_append]
  by_cases h : dec c.1 <;> simp [h, sumL, Rat.add_zero]
theorem at_append (C D : List (Pt × Rat)) (t : Pt) : at_ (C ++ D) t = at_ C t + at_ D t := by
  unfold at_; rw [List.filter_append, List.map_append, sumL_append]
theorem dec_append (dec : Pt → Bool) (C D : List (Pt × Rat)) : dec_ dec (C ++ D) = dec_ dec C + dec_ dec D := by
  unfold dec_; rw [List.filter_append, List.map_append, sumL_append]
/-- over a list of places -/
theorem at_flat (g : Pt → List (Pt × Rat)) (t : Pt) (l : List Pt) : at_ (l.flatMap g) t = sumL (l.map fun a => at_ (g a) t) := by
  induction l with
  | nil => rfl
  | cons a l ih => rw [List.flatMap_cons, at_append, ih]; rfl
theorem dec_flat (dec : Pt → Bool) (g : Pt → List (Pt × Rat)) (l : List Pt) : dec_ dec (l.flatMap g) = sumL (l.map fun a => dec_ dec (g a)) := by
  induction l with
  | nil => rfl
  | cons a l ih => rw [List.flatMap_cons, dec_append, ih]; rfl
/-- A sum over places without repetition, of what is 0 outside them, is the sum over any list without repetition that has them all. -/
theorem sum_over {h : Pt → Rat} : ∀ {l g : List Pt}, l.Nodup → g.Nodup → (∀ a ∈ l, a ∈ g) → (∀ a ∈ g, a ∉ l → h a = 0) → sumL (l.map h) = sumL (g.map h)
  | [], g, _, _, _, hz => by
    rw [sumL_zero (l := g.map h) (fun x hx => by obtain ⟨a, ha, rfl⟩ := List.mem_map.1 hx; exact hz a ha (by simp))]; rfl
  | a :: l, g, hl, hg, hs, hz => by
    obtain ⟨h1, h2⟩ := List.nodup_cons.1 hl
    obtain ⟨g1, g2, rfl⟩ := List.append_of_mem (hs a (by simp))
    have hp : (g1 ++ a :: g2).Perm (a :: (g1 ++ g2)) := List.perm_middle
    rw [sumL_perm (hp.map h)]
    have hn := (hp.nodup_iff).1 hg
    obtain ⟨k1, k2⟩ := List.nodup_cons.1 hn
    have hz' : ∀ b ∈ g1 ++ g2, b ∉ l → (fun b => if b = a then 0 else h b) b = 0 := fun b hbg hb => by
      by_cases e : b = a
      · simp [e]
      · simp only [e, if_false]; exact hz b (hp.mem_iff.2 (List.mem_cons_of_mem _ hbg)) (by simp [e, hb])
    have ih := sum_over (h := fun b => if b = a then 0 else h b) h2 k2 (fun b hb => by
      rcases List.mem_cons.1 (hp.mem_iff.1 (hs b (by simp [hb]))) with e | e
      · subst e; exact absurd hb h1
      · exact e) hz'
    have c1 : l.map (fun b => if b = a then 0 else h b) = l.map h := List.map_congr_left fun b hb => by
      have hne : b ≠ a := fun e => h1 (by rw [← e]; exact hb)
      simp only [hne, if_false]
    have c2 : (g1 ++ g2).map (fun b => if b = a then 0 else h b) = (g1 ++ g2).map h := List.map_congr_left fun b hb => by
      have hne : b ≠ a := fun e => k1 (by rw [← e]; exact hb)
      simp only [hne, if_false]
    rw [c1, c2] at ih
    simp only [List.map_cons, sumL, ih]
/-- all places up to n -/
def grid (n : Nat) : List Pt := (List.range (n + 1)).flatMap fun x => (List.range (n + 1)).map fun y => (x, y)
theorem mem_grid {n : Nat} {a : Pt} : a ∈ grid n ↔ a.1 ≤ n ∧ a.2 ≤ n := by
  unfold grid
  simp only [List.mem_flatMap, List.mem_map, List.mem_range]
  constructor
  · rintro ⟨x, hx, y, hy, rfl⟩; exact ⟨by omega, by omega⟩
  · rintro ⟨h1, h2⟩; exact ⟨a.1, by omega, a.2, by omega, rfl⟩
theorem nodup_grid (n : Nat) : (grid n).Nodup := by
  unfold grid
  have key : ∀ l : List Nat, l.Nodup → (l.flatMap fun x => (List.range (n + 1)).map fun y => ((x, y) : Pt)).Nodup := by
    intro l
    induction l with
    | nil => intro _; exact List.nodup_nil
    | cons x l ih =>
      intro h
      obtain ⟨h1, h2⟩ := List.nodup_cons.1 h
      rw [List.flatMap_cons]
      refine List.nodup_append.2 ⟨?_, ih h2, ?_⟩
      · have : (List.range (n + 1)).Nodup := List.nodup_range
        exact (List.pairwise_map).2 (this.imp fun hab e => hab (by injection e))
      · intro a ha b hb e
        subst e
        simp only [List.mem_map, List.mem_flatMap] at ha hb
        obtain ⟨y, _, rfl⟩ := ha
        obtain ⟨x', hx', y', _, e⟩ := hb
        injection e with e1 _
        subst e1; exact h1 hx'
  exact key _ List.nodup_range
/-- what is open after one pair more -/
def nextF (dec : Pt → Bool) (u d e : Rat) (n : Nat) (f : Pt → Rat) (t : Pt) : Rat := if dec t then 0 else at_ ((grid n).flatMap (out u d e f)) t
/-- what one pair more decides -/
def moreF (dec : Pt → Bool) (u d e : Rat) (n : Nat) (f : Pt → Rat) : Rat := dec_ dec ((grid n).flatMap (out u d e f))
/-- after k pairs: what is open, and what is decided; n bounds all places -/
def chF (dec : Pt → Bool) (u d e : Rat) (n : Nat) : Nat → Pt → Rat
  | 0 => fun t => if t = (0, 0) then 1 else 0
  | k + 1 => nextF dec u d e n (chF dec u d e n k)
def chS (dec : Pt → Bool) (u d e : Rat) (n : Nat) : Nat → Rat
  | 0 => 0
  | k + 1 => chS dec u d e n k + moreF dec u d e n (chF dec u d e n k)
theorem out_zero {u d e : Rat} {f : Pt → Rat} {a : Pt} (h : f a = 0) : ∀ c ∈ out u d e f a, c.2 = 0 := by
  intro c hc
  unfold out at hc
  obtain ⟨t, _, rfl⟩ := List.mem_map.1 hc
  show f a * t.2 = 0
  rw [h, Rat.zero_mul]
theorem at_zero {C : List (Pt × Rat)} (h : ∀ c ∈ C, c.2 = 0) (t : Pt) : at_ C t = 0 := sumL_zero fun x hx => by
  obtain ⟨c, hc, rfl⟩ := List.mem_map.1 hx; exact h c (List.mem_filter.1 hc).1
theorem dec_zero {C : List (Pt × Rat)} (h : ∀ c ∈ C, c.2 = 0) (dec : Pt → Bool) : dec_ dec C = 0 := sumL_zero fun x hx => by
  obtain ⟨c, hc, rfl⟩ := List.mem_map.1 hx; exact h c (List.mem_filter.1 hc).1
/-- what comes of places without repetition, outside which nothing is open -/
theorem at_keys {u d e : Rat} {f : Pt → Rat} {l : List Pt} {n : Nat} (hl : l.Nodup) (hn : ∀ a ∈ l, a.1 ≤ n ∧ a.2 ≤ n) (hz : ∀ a, a ∉ l → f a = 0) (t : Pt) : at_ (l.flatMap (out u d e f)) t = at_ ((grid n).flatMap (out u d e f)) t := by
  rw [at_flat, at_flat]
  exact sum_over hl (nodup_grid n) (fun a ha => mem_grid.2 (hn a ha)) (fun a _ ha => at_zero (out_zero (hz a ha)) t)
theorem dec_keys {u d e : Rat} {f : Pt → Rat} {l : List Pt} {n : Nat} (dec : Pt → Bool) (hl : l.Nodup) (hn : ∀ a ∈ l, a.1 ≤ n ∧ a.2 ≤ n) (hz : ∀ a, a ∉ l → f a = 0) : dec_ dec (l.flatMap (out u d e f)) = dec_ dec ((grid n).flatMap (out u d e f)) := by
  rw [dec_flat, dec_flat]
  exact sum_over hl (nodup_grid n) (fun a ha => mem_grid.2 (hn a ha)) (fun a _ ha => dec_zero (out_zero (hz a ha)) dec)
theorem at_cons (c : Pt × Rat) (C : List (Pt × Rat)) (t : Pt) : at_ (c :: C) t = (if c.1 = t then c.2 else 0) + at_ C t := by
  unfold at_
  by_cases h : c.1 = t <;> simp [h, sumL, Rat.zero_add]
theorem dec_cons (dec : Pt → Bool) (c : Pt × Rat) (C : List (Pt × Rat)) : dec_ dec (c :: C) = (if dec c.1 then c.2 else 0) + dec_ dec C := by
  unfold dec_
  by_cases h : dec c.1 = true <;> simp [h, sumL, Rat.zero_add]
theorem at_nil (t : Pt) : at_ [] t = 0 := rfl
theorem dec_nil (dec : Pt → Bool) : dec_ dec [] = 0 := rfl
theorem at_out (u d e : Rat) (f : Pt → Rat) (a t : Pt) : at_ (out u d e f a) t = (if (a.1 + 1, a.2) = t then f a * u else 0) + ((if (a.1, a.2 + 1) = t then f a * d else 0) + (if a = t then f a * e else 0)) := by
  unfold out tr
  simp only [List.map_cons, List.map_nil, at_cons, at_nil, Rat.add_zero]
end Ch
end Go.Proofs.YtilolnjbpokdnaaGreatDoor
namespace Go.Proofs.YtilolnjbpokdnaaGreatDoor
open Go.RowKit
namespace Nt
/-- what a whole row reads as, and what writing one leaves -/
theorem load_row {P : Program} {w : World} {b : Nat} {A : Array Value} {t ty : TypeId} {n : Nat} {e : TypeId} (h : RH w b A t) (hu : P.underlying ty = some (.array n e)) (hi : (P.info? ty).map (·.size) = some A.size) :
    (Instr.loadAt ty (.pointer (some ⟨b, 0, none⟩))).run P w = .ok (.agg A) w := by
  simp only [Instr.loadAt, Instr.sureAddr, Sem.run_bind, Sem.run_pure, Result.andThen]
  exact run_loadVar_row w b t ty A _ _ h hu rfl hi
theorem store_row {P : Program} {w : World} {b : Nat} {A A' : Array Value} {t ty : TypeId} (h : RH w b A t) (hi : (P.info? ty).map (·.size) = some A'.size) (ho : A.size = A'.size) (h1 : A'.all (·.oneCell') = true) :
    (Instr.storeAt ty (.pointer (some ⟨b, 0, none⟩)) (.agg A')).run P w = .ok () (w.setRow b A') := by
  simp only [Instr.storeAt, Instr.sureAddr, Sem.run_bind, Sem.run_pure, Result.andThen]
  exact run_storeVar_row w b t ty A A' h hi ho h1
end Nt
open Nt (RH RH.cell RH.other)
end Go.Proofs.YtilolnjbpokdnaaGreatDoor
namespace Go.Proofs.YtilolnjbpokdnaaGreatDoor
open Go.RowKit
namespace Nt
open _root_.Go.Proofs.YtilolnjbpokdnaaGreatDoor.Nm (showN showD)
def strs (A : Array Value) : Prop := ∀ (j : Nat) (v : Value), A[j]? = some v → ∃ s, v = .string s
theorem strs.one {A : Array Value} (h : strs A) : A.all (·.oneCell') = true := by
  rw [Array.all_eq_true_iff_forall_mem]
  intro v hv
  obtain ⟨i, hi, rfl⟩ := Array.mem_iff_getElem.1 hv
  obtain ⟨s, hs⟩ := h i A[i] (Array.getElem?_eq_getElem hi)
  rw [hs]; rfl
theorem strs.set {A : Array Value} (h : strs A) (j : Nat) (s : ByteArray) : strs (A.setIfInBounds j (.string s)) := by
  intro i v hv
  rw [Array.getElem?_setIfInBounds] at hv
  split at hv
  · split at hv
    · cases hv; exact ⟨s, rfl⟩
    · cases hv
  · exact h i v hv
/-- a grid of ratios: what is known of it (K: where) -/
structure GA (A : Array Value) (K : Nat → Nat → Prop) (f : Ch.Pt → Rat) : Prop where
  size : A.size = 162
  str : strs A
  at_ : ∀ x y, x < 9 → y < 9 → K x y → A[x * 18 + y * 2]? = some (.string (showN (f (x, y)))) ∧ A[x * 18 + y * 2 + 1]? = some (.string (showD (f (x, y))))
theorem GA.set {A : Array Value} {K : Nat → Nat → Prop} {f : Ch.Pt → Rat} (h : GA A K f) {x y : Nat} (hx : x < 9) (hy : y < 9) (q : Rat) {K' : Nat → Nat → Prop} {f' : Ch.Pt → Rat} (hK : ∀ u v, u < 9 → v < 9 → K' u v → (u = x ∧ v = y) ∨ K u v) (hf : ∀ u v, u < 9 → v < 9 → K' u v → f' (u, v) = if u = x ∧ v = y then q else f (u, v)) :
    GA ((A.setIfInBounds (x * 18 + y * 2) (.string (showN q))).setIfInBounds (x * 18 + y * 2 + 1) (.string (showD q))) K' f' where
  size := by rw [Array.size_setIfInBounds, Array.size_setIfInBounds]; exact h.size
  str := (h.str.set _ _).set _ _
  at_ u v hu hv hk := by
    have hs := h.size
    rw [hf u v hu hv hk]
    simp only [Array.getElem?_setIfInBounds, Array.size_setIfInBounds]
    by_cases e : u = x ∧ v = y
    · obtain ⟨rfl, rfl⟩ := e
      rw [if_neg (by omega), if_pos rfl, if_pos (by omega), if_pos rfl, if_pos (by omega)]
      simp
      omega
    · rw [if_neg e, if_neg (by omega), if_neg (by omega), if_neg (by omega), if_neg (by omega)]
      exact h.at_ u v hu hv ((hK u v hu hv hk).resolve_left e)
def GB (w : World) (b : Nat) (K : Nat → Nat → Prop) (f : Ch.Pt → Rat) : Prop := ∃ A, RH w b A 194 ∧ GA A K f
theorem GB.ext {w w' : World} {b : Nat} {K : Nat → Nat → Prop} {f : Ch.Pt → Rat} (h : GB w b K f) (hb : Below w.heap.size w w') : GB w' b K f := by
  obtain ⟨A, h1, h2⟩ := h; exact ⟨A, h1.ext hb, h2⟩
theorem GB.lt {w : World} {b : Nat} {K : Nat → Nat → Prop} {f : Ch.Pt → Rat} (h : GB w b K f) : b < w.heap.size := by
  obtain ⟨A, h1, _⟩ := h; exact h1.lt
theorem GB.cells {w : World} {b : Nat} {K : Nat → Nat → Prop} {f : Ch.Pt → Rat} (h : GB w b K f) {x y : Nat} (hx : x < 9) (hy : y < 9) (hk : K x y) : w.cell? ⟨b, x * 18 + y * 2, none⟩ = some (.string (showN (f (x, y)))) ∧ w.cell? ⟨b, x * 18 + y * 2 + 1, none⟩ = some (.string (showD (f (x, y)))) := by
  obtain ⟨A, h1, h2⟩ := h
  rw [h1.cell, h1.cell]; exact h2.at_ x y hx hy hk
theorem GB.slot {w : World} {b : Nat} {K : Nat → Nat → Prop} {f : Ch.Pt → Rat} (h : GB w b K f) {x y : Nat} (hx : x < 9) (hy : y < 9) : ∃ s t, w.cell? ⟨b, x * 18 + y * 2, none⟩ = some (.string s) ∧ w.cell? ⟨b, x * 18 + y * 2 + 1, none⟩ = some (.string t) ∧ w.frozen? ⟨b, x * 18 + y * 2, none⟩ = false ∧ w.frozen? ⟨b, x * 18 + y * 2 + 1, none⟩ = false := by
  obtain ⟨A, h1, h2⟩ := h
  have hs := h2.size
  obtain ⟨s, e1⟩ := h2.str (x * 18 + y * 2) _ (Array.getElem?_eq_getElem (by omega))
  obtain ⟨t, e2⟩ := h2.str (x * 18 + y * 2 + 1) _ (Array.getElem?_eq_getElem (by omega))
  refine ⟨s, t, ?_, ?_, h1.fre _, h1.fre _⟩
  · rw [h1.cell, Array.getElem?_eq_getElem (by omega), e1]
  · rw [h1.cell, Array.getElem?_eq_getElem (by omega), e2]
theorem GB.set {w : World} {b : Nat} {K : Nat → Nat → Prop} {f : Ch.Pt → Rat} (h : GB w b K f) {x y : Nat} (hx : x < 9) (hy : y < 9) (q : Rat) {K' : Nat → Nat → Prop} {f' : Ch.Pt → Rat} (hK : ∀ u v, u < 9 → v < 9 → K' u v → (u = x ∧ v = y) ∨ K u v) (hf : ∀ u v, u < 9 → v < 9 → K' u v → f' (u, v) = if u = x ∧ v = y then q else f (u, v)) :
    GB ((w.setCell ⟨b, x * 18 + y * 2, none⟩ (.string (showN q))).setCell ⟨b, x * 18 + y * 2 + 1, none⟩ (.string (showD q))) b K' f' := by
  obtain ⟨A, h1, h2⟩ := h
  exact ⟨_, (h1.set _ _).set _ _, h2.set hx hy q hK hf⟩
theorem GB.other {w : World} {b : Nat} {K : Nat → Nat → Prop} {f : Ch.Pt → Rat} (h : GB w b K f) {p : Addr} (hne : b ≠ p.block) (v : Value) : GB (w.setCell p v) b K f := by
  obtain ⟨A, h1, h2⟩ := h; exact ⟨A, h1.set_other hne v, h2⟩
theorem GB.row_other {w : World} {b b' : Nat} {K : Nat → Nat → Prop} {f : Ch.Pt → Rat} (h : GB w b K f) (hne : b ≠ b') (A' : Array Value) : GB (w.setRow b' A') b K f := by
  obtain ⟨A, h1, h2⟩ := h; exact ⟨A, h1.row_other hne A', h2⟩
theorem GB.turn {w : World} {b : Nat} {K K' : Nat → Nat → Prop} {f f' : Ch.Pt → Rat} (h : GB w b K f) (hK : ∀ u v, u < 9 → v < 9 → K' u v → K u v ∧ f' (u, v) = f (u, v)) : GB w b K' f' := by
  obtain ⟨A, h1, h2⟩ := h
  refine ⟨A, h1, h2.size, h2.str, fun x y hx hy hk => ?_⟩
  obtain ⟨k1, k2⟩ := hK x y hx hy hk
  rw [k2]; exact h2.at_ x y hx hy k1
/-- a grid of bools -/
structure EA (A : Array Value) (K : Nat → Nat → Prop) (e : Ch.Pt → Bool) : Prop where
  size : A.size = 81
  bool : ∀ (j : Nat) (v : Value), A[j]? = some v → ∃ b, v = .bool b
  at_ : ∀ x y, x < 9 → y < 9 → K x y → A[x * 9 + y]? = some (.bool (e (x, y)))
theorem EA.set {A : Array Value} {K : Nat → Nat → Prop} {e : Ch.Pt → Bool} (h : EA A K e) {x y : Nat} (hx : x < 9) (hy : y < 9) (q : Bool) {K' : Nat → Nat → Prop} (hK : ∀ u v, u < 9 → v < 9 → K' u v → (u = x ∧ v = y) ∨ K u v) (hq : e (x, y) = q) :
    EA (A.setIfInBounds (x * 9 + y) (.bool q)) K' e where
  size := by rw [Array.size_setIfInBounds]; exact h.size
  bool := by
    intro i v hv
    rw [Array.getElem?_setIfInBounds] at hv
    split at hv
    · split at hv
      · cases hv; exact ⟨q, rfl⟩
      · cases hv
    · exact h.bool i v hv
  at_ u v hu hv hk := by
    have hs := h.size
    rw [Array.getElem?_setIfInBounds]
    by_cases e' : u = x ∧ v = y
    · obtain ⟨rfl, rfl⟩ := e'
      rw [if_pos rfl, if_pos (by omega), hq]
    · rw [if_neg (by omega)]
      exact h.at_ u v hu hv ((hK u v hu hv hk).resolve_left e')
def EB (w : World) (b : Nat) (K : Nat → Nat → Prop) (e : Ch.Pt → Bool) : Prop := ∃ A, RH w b A 196 ∧ EA A K e
theorem EB.ext {w w' : World} {b : Nat} {K : Nat → Nat → Prop} {e : Ch.Pt → Bool} (h : EB w b K e) (hb : Below w.heap.size w w') : EB w' b K e := by
  obtain ⟨A, h1, h2⟩ := h; exact ⟨A, h1.ext hb, h2⟩
theorem EB.lt {w : World} {b : Nat} {K : Nat → Nat → Prop} {e : Ch.Pt → Bool} (h : EB w b K e) : b < w.heap.size := by
  obtain ⟨A, h1, _⟩ := h; exact h1.lt
theorem EB.cell {w : World} {b : Nat} {K : Nat → Nat → Prop} {e : Ch.Pt → Bool} (h : EB w b K e) {x y : Nat} (hx : x < 9) (hy : y < 9) (hk : K x y) : w.cell? ⟨b, x * 9 + y, none⟩ = some (.bool (e (x, y))) := by
  obtain ⟨A, h1, h2⟩ := h
  rw [h1.cell]; exact h2.at_ x y hx hy hk
theorem EB.slot {w : World} {b : Nat} {K : Nat → Nat → Prop} {e : Ch.Pt → Bool} (h : EB w b K e) {x y : Nat} (hx : x < 9) (hy : y < 9) : ∃ s, w.cell? ⟨b, x * 9 + y, none⟩ = some (.bool s) ∧ w.frozen? ⟨b, x * 9 + y, none⟩ = false := by
  obtain ⟨A, h1, h2⟩ := h
  have hs := h2.size
  obtain ⟨s, e1⟩ := h2.bool (x * 9 + y) _ (Array.getElem?_eq_getElem (by omega))
  exact ⟨s, by rw [h1.cell, Array.getElem?_eq_getElem (by omega), e1], h1.fre _⟩
theorem EB.set {w : World} {b : Nat} {K : Nat → Nat → Prop} {e : Ch.Pt → Bool} (h : EB w b K e) {x y : Nat} (hx : x < 9) (hy : y < 9) (q : Bool) {K' : Nat → Nat → Prop} (hK : ∀ u v, u < 9 → v < 9 → K' u v → (u = x ∧ v = y) ∨ K u v) (hq : e (x, y) = q) :
    EB (w.setCell ⟨b, x * 9 + y, none⟩ (.bool q)) b K' e := by
  obtain ⟨A, h1, h2⟩ := h
  exact ⟨_, h1.set _ _, h2.set hx hy q hK hq⟩
theorem EB.other {w : World} {b : Nat} {K : Nat → Nat → Prop} {e : Ch.Pt → Bool} (h : EB w b K e) {p : Addr} (hne : b ≠ p.block) (v : Value) : EB (w.setCell p v) b K e := by
  obtain ⟨A, h1, h2⟩ := h; exact ⟨A, h1.set_other hne v, h2⟩
theorem EB.row_other {w : World} {b b' : Nat} {K : Nat → Nat → Prop} {e : Ch.Pt → Bool} (h : EB w b K e) (hne : b ≠ b') (A' : Array Value) : EB (w.setRow b' A') b K e := by
  obtain ⟨A, h1, h2⟩ := h; exact ⟨A, h1.row_other hne A', h2⟩
theorem EB.turn {w : World} {b : Nat} {K K' : Nat → Nat → Prop} {e : Ch.Pt → Bool} (h : EB w b K e) (hK : ∀ u v, u < 9 → v < 9 → K' u v → K u v) : EB w b K' e := by
  obtain ⟨A, h1, h2⟩ := h
  exact ⟨A, h1, h2.size, h2.bool, fun x y hx hy hk => h2.at_ x y hx hy (hK x y hx hy hk)⟩
/-- what a new grid holds -/
def zG : Array Value := Array.replicate 162 (.string ⟨#[]⟩)
def zE : Array Value := Array.replicate 81 (.bool false)
theorem zG_ok (f : Ch.Pt → Rat) : GA zG (fun _ _ => False) f where
  size := Array.size_replicate
  str j v h := by
    unfold zG at h
    rw [Array.getElem?_replicate] at h
    split at h
    · cases h; exact ⟨_, rfl⟩
    · cases h
  at_ _ _ _ _ h := h.elim
theorem zE_ok (e : Ch.Pt → Bool) : EA zE (fun _ _ => False) e where
  size := Array.size_replicate
  bool j v h := by
    unfold zE at h
    rw [Array.getElem?_replicate] at h
    split at h
    · cases h; exact ⟨_, rfl⟩
    · cases h
  at_ _ _ _ _ h := h.elim
set_option maxRecDepth 100000 in
theorem info_G : (Tryz.prog.info? 194).map (fun i => (i.zero, i.size)) = some (some (.agg zG), 162) := by kernel_rfl
set_option maxRecDepth 100000 in
theorem info_E : (Tryz.prog.info? 196).map (fun i => (i.zero, i.size)) = some (some (.agg zE), 81) := by kernel_rfl
theorem size_G : (Tryz.prog.info? 194).map (·.size) = some 162 := (zero_of_info info_G).2
theorem und_G : Tryz.prog.underlying 194 = some (.array 9 193) := by kernel_rfl
/-- a whole grid copied into a new block, and back -/
theorem GB.read {w : World} {b : Nat} {K : Nat → Nat → Prop} {f : Ch.Pt → Rat} (h : GB w b K f) : ∃ A, GA A K f ∧ RH w b A 194 ∧ (Instr.loadAt 194 (.pointer (some ⟨b, 0, none⟩))).run Tryz.prog w = .ok (.agg A) w := by
  obtain ⟨A, h1, h2⟩ := h
  exact ⟨A, h2, h1, load_row h1 und_G (by rw [size_G, h2.size])⟩
theorem GB.new {K : Nat → Nat → Prop} {f : Ch.Pt → Rat} {A : Array Value} (h : GA A K f) (w : World) : GB (w.alloc (.cells A 194)) w.heap.size K f := ⟨A, RH.new _ _ _, h⟩
theorem EB.new (e : Ch.Pt → Bool) (w : World) : EB (w.alloc (.cells zE 196)) w.heap.size (fun _ _ => False) e := ⟨zE, RH.new _ _ _, zE_ok e⟩
theorem GB.write {w : World} {b : Nat} {K K' : Nat → Nat → Prop} {f f' : Ch.Pt → Rat} (h : GB w b K f) {A : Array Value} (hA : GA A K' f') : (Instr.storeAt 194 (.pointer (some ⟨b, 0, none⟩)) (.agg A)).run Tryz.prog w = .ok () (w.setRow b A) ∧ GB (w.setRow b A) b K' f' := by
  obtain ⟨B, h1, h2⟩ := h
  exact ⟨store_row h1 (by rw [size_G, hA.size]) (by rw [h2.size, hA.size]) hA.str.one, A, h1.row A, hA⟩
end Nt
end Go.Proofs.YtilolnjbpokdnaaGreatDoor
