/- Rows of moments (11 cells), rows of sums (16 cells), and the numbers that these read as. The sizes alone are the program's. none, add, moments of package metric. Printed by gen_mom.py. -/
import Derived.Test.YtilolnjbpokdnaaGreatDoorBq50
import Derived.Test.YtilolnjbpokdnaaGreatDoorBq26
import Derived.Test.YtilolnjbpokdnaaGreatDoorBq00
import Derived.Test.YtilolnjbpokdnaaGreatDoorBq03
import Derived.Test.YtilolnjbpokdnaaGreatDoorProg
import Derived.Test.YtilolnjbpokdnaaGreatDoorBq04
import Derived.Test.YtilolnjbpokdnaaGreatDoorBq05
import Derived.Test.YtilolnjbpokdnaaGreatDoorBq06
import Derived.Test.YtilolnjbpokdnaaGreatDoorBq07
import Derived.Test.YtilolnjbpokdnaaGreatDoorBq08
import Derived.Test.YtilolnjbpokdnaaGreatDoorBq09
import Derived.Test.YtilolnjbpokdnaaGreatDoorBq10
import Derived.Test.YtilolnjbpokdnaaGreatDoorBq11
import Derived.Test.YtilolnjbpokdnaaGreatDoorBq12
import Derived.Test.YtilolnjbpokdnaaGreatDoorBq19
import Derived.Deep.MidRow
namespace Go.Proofs.YtilolnjbpokdnaaGreatDoor
open Go.RowKit
namespace Nm
open _root_.Go.Proofs.YtilolnjbpokdnaaGreatDoor.Nt (RH RH.cell RH.box RH.row RH.lt RH.new RH.ext)
/-- five numbers as the program keeps them -/
structure Y5 where
  x : Y3
  y : Y3
  xx : Y3
  yy : Y3
  xy : Y3
def smA (n : Int) (t : Y5) : Array Value := #[.int .i64 n, .bool t.x.b, .slice t.x.a1 t.x.n1 t.x.c1, .slice t.x.a2 t.x.n2 t.x.c2, .bool t.y.b, .slice t.y.a1 t.y.n1 t.y.c1, .slice t.y.a2 t.y.n2 t.y.c2, .bool t.xx.b, .slice t.xx.a1 t.xx.n1 t.xx.c1, .slice t.xx.a2 t.xx.n2 t.xx.c2, .bool t.yy.b, .slice t.yy.a1 t.yy.n1 t.yy.c1, .slice t.yy.a2 t.yy.n2 t.yy.c2, .bool t.xy.b, .slice t.xy.a1 t.xy.n1 t.xy.c1, .slice t.xy.a2 t.xy.n2 t.xy.c2]
structure SX (w : World) (t : Y5) (q : Q5) : Prop where
  x : XR w (y3V t.x) q.x
  y : XR w (y3V t.y) q.y
  xx : XR w (y3V t.xx) q.xx
  yy : XR w (y3V t.yy) q.yy
  xy : XR w (y3V t.xy) q.xy
theorem SX.ext {w w' : World} {t : Y5} {q : Q5} (h : SX w t q) (hb : Below w.heap.size w w') : SX w' t q := ⟨h.x.ext hb, h.y.ext hb, h.xx.ext hb, h.yy.ext hb, h.xy.ext hb⟩
/-- no cell is a word of a number -/
def NoW (A : Array Value) : Prop := ∀ (j : Nat) (u : Value), A[j]? = some u → isWord u = false
theorem noW_all {A : Array Value} (h : A.all (fun u => !isWord u) = true) : NoW A := fun j u hu => by
  have h1 := Array.all_eq_true_iff_forall_mem.1 h u (Array.mem_of_getElem? hu)
  simpa using h1
theorem sm_nw (n : Int) (t : Y5) : NoW (smA n t) := noW_all (by simp [smA, isWord])
def y3z : Y3 := ⟨false, none, 0, 0, none, 0, 0⟩
def y5z : Y5 := ⟨y3z, y3z, y3z, y3z, y3z⟩
/-- moments as texts -/
def mrA (n : Int) (r : R5) : Array Value := #[.int .i64 n, .string r.x.n, .string r.x.d, .string r.y.n, .string r.y.d, .string r.xx.n, .string r.xx.d, .string r.yy.n, .string r.yy.d, .string r.xy.n, .string r.xy.d]
theorem mr_nw (n : Int) (r : R5) : NoW (mrA n r) := noW_all (by simp [mrA, isWord])
def rtz : RT := ⟨⟨#[]⟩, ⟨#[]⟩⟩
def r5z : R5 := ⟨rtz, rtz, rtz, rtz, rtz⟩
theorem XR.row {w : World} {b : Nat} {A : Array Value} {t : TypeId} {v : Value} {q : Rat} (h : XR w v q) (hR : RH w b A t) (hn : NoW A) (A' : Array Value) : XR (w.setRow b A') v q := by
  obtain ⟨v1, v2, h0, h1, h2⟩ := h
  have hk : ∀ p : Addr, p.block ≠ b → (w.setRow b A').cell? p = w.cell? p := fun p hp => cell_setRow_other w b A' p hp
  exact ⟨v1, v2, h0, h1.keepBox hR.box hn hk, h2.keepBox hR.box hn hk⟩
theorem SX.row {w : World} {b : Nat} {A : Array Value} {ty : TypeId} {t : Y5} {q : Q5} (h : SX w t q) (hR : RH w b A ty) (hn : NoW A) (A' : Array Value) : SX (w.setRow b A') t q :=
  ⟨h.x.row hR hn A', h.y.row hR hn A', h.xx.row hR hn A', h.yy.row hR hn A', h.xy.row hR hn A'⟩
theorem sm_all (n : Int) (t : Y5) : (smA n t).all (·.oneCell') = true := by simp [smA, Value.oneCell']
theorem mr_all (n : Int) (r : R5) : (mrA n r).all (·.oneCell') = true := by simp [mrA, Value.oneCell']
theorem cs_other {w : World} {b o : Nat} {v : Value} {p : Addr} (hp : p.block ≠ b) : (w.setCell ⟨b, o, none⟩ v).cell? p = w.cell? p := World.cell?_setCell_other _ _ _ _ (fun e => hp (by rw [← e]))
theorem _root_.Go.Proofs.YtilolnjbpokdnaaGreatDoor.Nm.XR.far {w w' : World} {b : Nat} {A : Array Value} {v : Value} {q : Rat} (h : XR w v q) (hA : Box w b A) (hn : NoW A) (hk : ∀ p : Addr, p.block ≠ b → w'.cell? p = w.cell? p) : XR w' v q := by
  obtain ⟨v1, v2, h0, h1, h2⟩ := h
  exact ⟨v1, v2, h0, h1.keepBox hA hn hk, h2.keepBox hA hn hk⟩
theorem SX.far {w w' : World} {b : Nat} {A : Array Value} {t : Y5} {q : Q5} (h : SX w t q) (hA : Box w b A) (hn : NoW A) (hk : ∀ p : Addr, p.block ≠ b → w'.cell? p = w.cell? p) : SX w' t q :=
  ⟨h.x.far hA hn hk, h.y.far hA hn hk, h.xx.far hA hn hk, h.yy.far hA hn hk, h.xy.far hA hn hk⟩
/-- a number as its three cells -/
theorem XR.y3 {w : World} {v : Value} {q : Rat} (h : XR w v q) : ∃ t : Y3, v = .agg #[.bool t.b, .slice t.a1 t.n1 t.c1, .slice t.a2 t.n2 t.c2] ∧ XR w (y3V t) q := by
  obtain ⟨a1, c1, a2, c2, rfl, _, _⟩ := h.open_
  exact ⟨⟨_, _, _, _, _, _, _⟩, rfl, h⟩
theorem mr_info (n : Int) (r : R5) : (Tryz.prog.info? 47).map (·.size) = some (mrA n r).size := (by kernel_rfl : (Tryz.prog.info? 47).map (·.size) = some 11)
theorem sm_info (n : Int) (t : Y5) : (Tryz.prog.info? 110).map (·.size) = some (smA n t).size := (by kernel_rfl : (Tryz.prog.info? 110).map (·.size) = some 16)
/-- what is written up to the k-th sum -/
def r5k (q : Q5) (k : Nat) : R5 := ⟨if 0 < k then shR q.x else rtz, if 1 < k then shR q.y else rtz, if 2 < k then shR q.xx else rtz, if 3 < k then shR q.yy else rtz, if 4 < k then shR q.xy else rtz⟩
def fq (q : Q5) : Nat → Rat
  | 0 => q.x
  | 1 => q.y
  | 2 => q.xx
  | 3 => q.yy
  | _ => q.xy
def fy (t : Y5) : Nat → Y3
  | 0 => t.x
  | 1 => t.y
  | 2 => t.xx
  | 3 => t.yy
  | _ => t.xy
theorem SX.at {w : World} {t : Y5} {q : Q5} (h : SX w t q) : ∀ k, XR w (y3V (fy t k)) (fq q k)
  | 0 => h.x
  | 1 => h.y
  | 2 => h.xx
  | 3 => h.yy
  | _ + 4 => h.xy
theorem r5k_step {n : Int} {q : Q5} {k : Nat} (h : k < 5) : ((mrA n (r5k q k)).setIfInBounds (1 + 2 * k) (.string (showN (fq q k)))).setIfInBounds (1 + 2 * k + 1) (.string (showD (fq q k))) = mrA n (r5k q (k + 1)) := by
  match k, h with
  | 0, _ => rfl
  | 1, _ => rfl
  | 2, _ => rfl
  | 3, _ => rfl
  | 4, _ => rfl
theorem r5k_at {n : Int} {q : Q5} {k : Nat} (h : k < 5) : (mrA n (r5k q k))[1 + 2 * k]? = some (.string ⟨#[]⟩) ∧ (mrA n (r5k q k))[1 + 2 * k + 1]? = some (.string ⟨#[]⟩) := by
  match k, h with
  | 0, _ => exact ⟨rfl, rfl⟩
  | 1, _ => exact ⟨rfl, rfl⟩
  | 2, _ => exact ⟨rfl, rfl⟩
  | 3, _ => exact ⟨rfl, rfl⟩
  | 4, _ => exact ⟨rfl, rfl⟩
/-- the list of what is to be written where -/
def eA (b : Nat) (t : Y5) : Array Value := #[.pointer (some ⟨b, 1, none⟩), .bool t.x.b, .slice t.x.a1 t.x.n1 t.x.c1, .slice t.x.a2 t.x.n2 t.x.c2, .pointer (some ⟨b, 3, none⟩), .bool t.y.b, .slice t.y.a1 t.y.n1 t.y.c1, .slice t.y.a2 t.y.n2 t.y.c2, .pointer (some ⟨b, 5, none⟩), .bool t.xx.b, .slice t.xx.a1 t.xx.n1 t.xx.c1, .slice t.xx.a2 t.xx.n2 t.xx.c2, .pointer (some ⟨b, 7, none⟩), .bool t.yy.b, .slice t.yy.a1 t.yy.n1 t.yy.c1, .slice t.yy.a2 t.yy.n2 t.yy.c2, .pointer (some ⟨b, 9, none⟩), .bool t.xy.b, .slice t.xy.a1 t.xy.n1 t.xy.c1, .slice t.xy.a2 t.xy.n2 t.xy.c2]
theorem eA_at {b : Nat} {t : Y5} {k : Nat} (h : k < 5) : (eA b t)[k * 4]? = some (.pointer (some ⟨b, 1 + 2 * k, none⟩)) ∧ (eA b t)[k * 4 + 1]? = some (.bool (fy t k).b) ∧ (eA b t)[k * 4 + 2]? = some (.slice (fy t k).a1 (fy t k).n1 (fy t k).c1) ∧ (eA b t)[k * 4 + 3]? = some (.slice (fy t k).a2 (fy t k).n2 (fy t k).c2) := by
  match k, h with
  | 0, _ => exact ⟨rfl, rfl, rfl, rfl⟩
  | 1, _ => exact ⟨rfl, rfl, rfl, rfl⟩
  | 2, _ => exact ⟨rfl, rfl, rfl, rfl⟩
  | 3, _ => exact ⟨rfl, rfl, rfl, rfl⟩
  | 4, _ => exact ⟨rfl, rfl, rfl, rfl⟩
/-- too long numbers among the first k -/
def lgK (q : Q5) (k : Nat) : Bool := (q.l.take k).any lgB
theorem lgK_step {q : Q5} {k : Nat} (h : k < 5) : lgK q (k + 1) = (lgK q k || lgB (fq q k)) := by
  match k, h with
  | 0, _ => simp [lgK, Q5.l, fq]
  | 1, _ => simp [lgK, Q5.l, fq]
  | 2, _ => simp [lgK, Q5.l, fq, Bool.or_assoc]
  | 3, _ => simp [lgK, Q5.l, fq, Bool.or_assoc]
  | 4, _ => simp [lgK, Q5.l, fq, Bool.or_assoc]
theorem lgK_more {q : Q5} {k : Nat} (h : k < 5) (hl : lgB (fq q k) = true) : lgL q = true := by
  unfold lgL
  rw [List.any_eq_true]
  match k, h with
  | 0, _ => exact ⟨q.x, by simp [Q5.l], hl⟩
  | 1, _ => exact ⟨q.y, by simp [Q5.l], hl⟩
  | 2, _ => exact ⟨q.xx, by simp [Q5.l], hl⟩
  | 3, _ => exact ⟨q.yy, by simp [Q5.l], hl⟩
  | 4, _ => exact ⟨q.xy, by simp [Q5.l], hl⟩
theorem QF.at {q : Q5} (h : QF q) : ∀ k, Fits (fq q k)
  | 0 => h.x
  | 1 => h.y
  | 2 => h.xx
  | 3 => h.yy
  | _ + 4 => h.xy
def wrA (n : Int) (q : Q5) : Array Value := mrA (if lgL q = true then 0 else n) (if lgL q = true then r5z else q.r)
def SmPost (w : World) (n : Int) (q : Q5) (e : Ending) (w' : World) : Prop := ∃ t : Y5, e = .returned (.agg (smA n t)) ∧ SX w' t q ∧ Below w.heap.size w w'
def TP.sm (n : Int) (q : Q5) : TP := ⟨fun w v => ∃ t : Y5, v = .agg (smA n t) ∧ SX w t q, fun _ _ _ hb h => by obtain ⟨t, h1, h2⟩ := h; exact ⟨t, h1, h2.ext hb⟩⟩
/-- a new block's row -/
def TP.row (N : Nat) (A : Array Value) (ty : TypeId) : TP := ⟨fun w v => ∃ g, v = .pointer (some ⟨g, 0, none⟩) ∧ N ≤ g ∧ RH w g A ty, fun _ _ _ hb h => by obtain ⟨g, h1, h2, h3⟩ := h; exact ⟨g, h1, h2, h3.ext hb⟩⟩
/-- sums of numbers that the program can reckon with -/
structure QS (q : Q5) : Prop where
  x : Sm q.x
  y : Sm q.y
  xx : Sm q.xx
  yy : Sm q.yy
  xy : Sm q.xy
theorem QS.at {q : Q5} (h : QS q) : ∀ k, Sm (fq q k)
  | 0 => h.x
  | 1 => h.y
  | 2 => h.xx
  | 3 => h.yy
  | _ + 4 => h.xy
theorem QL.qs {q : Q5} (h : QL q) : QS q := ⟨h.x.sm (by omega) (by omega), h.y.sm (by omega) (by omega), h.xx.sm (by omega) (by omega), h.yy.sm (by omega) (by omega), h.xy.sm (by omega) (by omega)⟩
/-- a block of which all cells are known, that may be written -/
structure BF (w : World) (b : Nat) (A : Array Value) : Prop where
  box : Box w b A
  free : Fre w b
theorem BF.lt {w : World} {b : Nat} {A : Array Value} (h : BF w b A) : b < w.heap.size := h.box.1
theorem BF.cell {w : World} {b : Nat} {A : Array Value} (h : BF w b A) (j : Nat) : w.cell? ⟨b, j, none⟩ = A[j]? := h.box.2 j
theorem BF.fre {w : World} {b : Nat} {A : Array Value} (h : BF w b A) (j : Nat) : w.frozen? ⟨b, j, none⟩ = false := h.free j
theorem BF.ext {w w' : World} {b : Nat} {A : Array Value} (h : BF w b A) (hb : Below w.heap.size w w') : BF w' b A := ⟨h.box.ext hb, h.free.ext h.box hb⟩
theorem BF.set {w : World} {b : Nat} {A : Array Value} (h : BF w b A) (j : Nat) (hj : j < A.size) (v : Value) : BF (w.setCell ⟨b, j, none⟩ v) b (A.setIfInBounds j v) := by
  refine ⟨⟨by simp [World.setCell]; exact h.box.1, fun i => ?_⟩, fun i => by rw [World.frozen?_setCell]; exact h.free i⟩
  by_cases hij : i = j
  · subst hij
    rw [World.cell?_setCell_same _ _ _ ((h.box.2 i).trans (Array.getElem?_eq_getElem hj))]
    simp [hj]
  · rw [World.cell?_setCell_other _ _ _ _ (fun e => hij (by injection e with _ e2 _; exact e2.symm)), h.box.2 i, Array.getElem?_setIfInBounds]
    rw [if_neg (fun e => hij e.symm)]
theorem BF.other {w : World} {b : Nat} {A : Array Value} (h : BF w b A) {p : Addr} (hne : b ≠ p.block) (v : Value) : BF (w.setCell p v) b A :=
  ⟨⟨by simp [World.setCell]; exact h.box.1, fun i => by rw [World.cell?_setCell_other _ _ _ _ (fun e => hne (by rw [e]))]; exact h.box.2 i⟩, fun i => by rw [World.frozen?_setCell]; exact h.free i⟩
theorem BF.row_other {w : World} {b b' : Nat} {A : Array Value} (h : BF w b A) (hne : b ≠ b') (A' : Array Value) : BF (w.setRow b' A') b A := ⟨Nt.box_row h.box hne A', Nt.fre_row h.free hne A'⟩
/-- rows that a region lays -/
theorem wp_rows1 {P : Program} {c : Code} {Q : Exit → Act → World → Prop} {a : Act} {w : World} {A : Array Value} {t : TypeId}
    (h : ∀ W, Below w.heap.size w W → RH W w.heap.size A t → c.wp P Q a W) : c.wp P Q a (w.alloc (.cells A t)) := h _ (ext_alloc _ _) (RH.new _ _ _)
theorem wp_rows2 {P : Program} {c : Code} {Q : Exit → Act → World → Prop} {a : Act} {w : World} {A B : Array Value} {t u : TypeId}
    (h : ∀ W, Below w.heap.size w W → RH W w.heap.size A t → RH W (w.heap.size + 1) B u → c.wp P Q a W) : c.wp P Q a ((w.alloc (.cells A t)).alloc (.cells B u)) := by
  refine h _ (by go_grown) ((RH.new w A t).ext (ext_alloc _ _)) ?_
  have := RH.new (w.alloc (.cells A t)) B u
  simpa using this
end Nm
end Go.Proofs.YtilolnjbpokdnaaGreatDoor
namespace Go.Proofs.YtilolnjbpokdnaaGreatDoor
open Go.RowKit
namespace Nm
open _root_.Go.Proofs.YtilolnjbpokdnaaGreatDoor.Nt (RH RH.cell RH.box RH.row RH.lt RH.new RH.ext RH.fre RH.set RH.other RH.row_other store_cells)
set_option maxRecDepth 100000 in
set_option maxHeartbeats 16000000 in
theorem moments_at (n : Int) (t : Y5) (q : Q5) (w : World) (hx : SX w t q) (hf : QF q) (hs : QS q) : Calls Tryz.prog 74 #[.agg (smA n t)] w (fun e w' => e = .returned (.tuple #[.agg (wrA n q), .int .i64 (wrF q)]) ∧ Below w.heap.size w w') := by
 have HX0 := Lib.hid hx
 have HQF := Lib.hid hf
 have HQS := Lib.hid hs
 clear hx hf hs
 go_enter Tryz.func74, Tryz.ntmps74
 go_upto_region 1 with (fail)
 refine wp_rows2 fun w1' hbz hR0 hR1 => ?_
 have HR_s : Hid (RH w1' w.heap.size (smA (n) t) 110) := Lib.hid hR0
 have HR_o : Hid (RH w1' (w.heap.size + 1) (mrA (0) r5z) 47) := Lib.hid hR1
 have HW := Lib.hid hbz
 clear hbz hR0 hR1
 have HX : Hid (SX w1' t q) := Lib.hid (HX0.out.ext HW.out)
 clear HX0
 obtain ⟨c_s_0, -, -, -, -, -, -, -, -, -, -, -, -, -, -, -⟩ := zs16 HR_s.out
 go_upto_region 2 with (fail)
 refine wp_rows1 fun w2' hbz hR0 => ?_
 have lt_s_m : w.heap.size < w1'.heap.size := HR_s.out.lt
 have lt_o_m : (w.heap.size + 1) < w1'.heap.size := HR_o.out.lt
 have le_m : w.heap.size ≤ w1'.heap.size := HW.out.size
 replace HR_s := Lib.hid (HR_s.out.ext hbz)
 replace HR_o := Lib.hid (HR_o.out.ext hbz)
 replace HX := Lib.hid (HX.out.ext hbz)
 replace HW := Lib.hid (ext_trans HW.out hbz)
 clear c_s_0
 clear hbz
 have HR_m : Hid (RH w2' w1'.heap.size (mrA (n) r5z) 47) := Lib.hid hR0
 clear hR0
 generalize w1'.heap.size = b_m at *
 obtain ⟨c_s_0, c_s_1, c_s_2, c_s_3, c_s_4, c_s_5, c_s_6, c_s_7, c_s_8, c_s_9, c_s_10, c_s_11, c_s_12, c_s_13, c_s_14, c_s_15⟩ := zs16 HR_s.out
 go_upto_region 3 with (fail)
 refine wp_rows1 fun w3' hbz hR0 => ?_
 have lt_s_e : w.heap.size < w2'.heap.size := HR_s.out.lt
 have lt_o_e : (w.heap.size + 1) < w2'.heap.size := HR_o.out.lt
 have lt_m_e : b_m < w2'.heap.size := HR_m.out.lt
 have le_e : w.heap.size ≤ w2'.heap.size := HW.out.size
 replace HR_s := Lib.hid (HR_s.out.ext hbz)
 replace HR_o := Lib.hid (HR_o.out.ext hbz)
 replace HR_m := Lib.hid (HR_m.out.ext hbz)
 replace HX := Lib.hid (HX.out.ext hbz)
 replace HW := Lib.hid (ext_trans HW.out hbz)
 clear c_s_0 c_s_1 c_s_2 c_s_3 c_s_4 c_s_5 c_s_6 c_s_7 c_s_8 c_s_9 c_s_10 c_s_11 c_s_12 c_s_13 c_s_14 c_s_15
 clear hbz
 have HR_e : Hid (RH w3' w2'.heap.size (eA b_m t) 165) := Lib.hid hR0
 clear hR0
 generalize w2'.heap.size = b_e at *
 replace HR_m : Hid (RH w3' b_m (mrA n (r5k q 0)) 47) := HR_m
 go_wp2
 go_loopw [8, 34] (fun _ i wr => ∃ k : Nat, k ≤ 5 ∧ i = .int .i64 (k : Int) ∧ Hid (lgK q k = false) ∧ (RH wr w.heap.size (smA (n) t) 110) ∧ (RH wr (w.heap.size + 1) (mrA (0) r5z) 47) ∧ (RH wr b_m (mrA (n) (r5k q k)) 47) ∧ (RH wr b_e (eA b_m t) 165) ∧ (SX wr t q) ∧ (Below w.heap.size w wr)) (fun _ i _ => 5 - (intOf i).toNat)
 case atStart => exact ⟨0, by omega, rfl, Lib.hid rfl, HR_s.out, HR_o.out, HR_m.out, HR_e.out, HX.out, HW.out⟩
 case round =>
  obtain ⟨k, hk, rfl, HK, q_HR_s, q_HR_o, q_HR_m, q_HR_e, q_HX, q_HW⟩ := hrel
  clear HR_s HR_o HR_m HR_e HX HW
  have HR_s := Lib.hid q_HR_s
  have HR_o := Lib.hid q_HR_o
  have HR_m := Lib.hid q_HR_m
  have HR_e := Lib.hid q_HR_e
  have HX := Lib.hid q_HX
  have HW := Lib.hid q_HW
  clear q_HR_s q_HR_o q_HR_m q_HR_e q_HX q_HW
  generalize hX : wr = X at *
  clear hX
  by_cases hlt : k < 5
  ·have hk0 : (0 : Int) ≤ (k : Int) := Int.natCast_nonneg _
   have hk1 : (k : Int) < 5 := by omega
   have hk3 : (k : Int).toNat = k := by omega
   obtain ⟨h0, h1, h2, h3⟩ := eA_at (b := b_m) (t := t) hlt
   obtain ⟨qk, hqk⟩ : ∃ z, fq q k = z := ⟨_, rfl⟩
   obtain ⟨tk, htk⟩ : ∃ z, fy t k = z := ⟨_, rfl⟩
   rw [htk] at h1 h2 h3
   have HXK : Hid (XR X (y3V tk) qk) := Lib.hid (by have h := HX.out.at k; rw [hqk, htk] at h; exact h)
   have HFK : Hid (Fits qk ∧ Sm qk) := Lib.hid (by rw [← hqk]; exact ⟨HQF.out.at k, HQS.out.at k⟩)
   obtain ⟨ok, hok⟩ : ∃ z, 1 + 2 * k = z := ⟨_, rfl⟩
   rw [hok] at h0
   have HMS : Hid (((mrA n (r5k q k)).setIfInBounds ok (.string (showN qk))).setIfInBounds (ok + 1) (.string (showD qk)) = mrA n (r5k q (k + 1))) := Lib.hid (by rw [← hok, ← hqk]; exact r5k_step hlt)
   have HMA : Hid ((mrA n (r5k q k))[ok]? = some (.string ⟨#[]⟩) ∧ (mrA n (r5k q k))[ok + 1]? = some (.string ⟨#[]⟩)) := Lib.hid (by rw [← hok]; exact r5k_at hlt)
   have HLB : Hid (lgB (fq q k) = decide (100 < (cutS (showN qk)).size)) := Lib.hid (by rw [hqk]; rfl)
   have e0 := (HR_e.out.cell (k * 4)).trans h0
   have e1 := (HR_e.out.cell (k * 4 + 1)).trans h1
   have e2 := (HR_e.out.cell (k * 4 + 2)).trans h2
   have e3 := (HR_e.out.cell (k * 4 + 3)).trans h3
   clear h0 h1 h2 h3 hqk htk hok
   go_upto_region 5 with (fail)
   refine wp_rows1 fun w4' hbz hR0 => ?_
   have lt_s_p : w.heap.size < X.heap.size := HR_s.out.lt
   have lt_o_p : (w.heap.size + 1) < X.heap.size := HR_o.out.lt
   have lt_m_p : b_m < X.heap.size := HR_m.out.lt
   have lt_e_p : b_e < X.heap.size := HR_e.out.lt
   have le_p : w.heap.size ≤ X.heap.size := HW.out.size
   replace HR_s := Lib.hid (HR_s.out.ext hbz)
   replace HR_o := Lib.hid (HR_o.out.ext hbz)
   replace HR_m := Lib.hid (HR_m.out.ext hbz)
   replace HR_e := Lib.hid (HR_e.out.ext hbz)
   replace HX := Lib.hid (HX.out.ext hbz)
   replace HXK := Lib.hid (HXK.out.ext hbz)
   replace HW := Lib.hid (ext_trans HW.out hbz)
   clear e0 e1 e2 e3
   clear hbz
   have HR_p : Hid (RH w4' X.heap.size #[.pointer (some ⟨b_m, ok, none⟩), .bool tk.b, .slice tk.a1 tk.n1 tk.c1, .slice tk.a2 tk.n2 tk.c2] 165) := Lib.hid hR0
   clear hR0
   generalize X.heap.size = b_p at *
   obtain ⟨c_p_0, c_p_1, c_p_2, c_p_3⟩ := zs4 HR_p.out
   go_wp2_with fail
   refine (ratio_at qk _ w4' HXK.out (by have := HFK.out.2.1; omega) (by have := HFK.out.2.2; omega)).mono ?_
   rintro e w5' ⟨rfl, hbz⟩
   rw [(out_fits HFK.out.1).1, (out_fits HFK.out.1).2.1, (out_fits HFK.out.1).2.2]
   replace HR_s := Lib.hid (HR_s.out.ext hbz)
   replace HR_o := Lib.hid (HR_o.out.ext hbz)
   replace HR_m := Lib.hid (HR_m.out.ext hbz)
   replace HR_e := Lib.hid (HR_e.out.ext hbz)
   replace HR_p := Lib.hid (HR_p.out.ext hbz)
   replace HX := Lib.hid (HX.out.ext hbz)
   replace HXK := Lib.hid (HXK.out.ext hbz)
   replace HW := Lib.hid (ext_trans HW.out hbz)
   clear c_p_0 c_p_1 c_p_2 c_p_3
   clear hbz
   go_upto_region 6 with (fail)
   refine wp_rows1 fun w6' hbz hR0 => ?_
   have lt_s_r : w.heap.size < w5'.heap.size := HR_s.out.lt
   have lt_o_r : (w.heap.size + 1) < w5'.heap.size := HR_o.out.lt
   have lt_m_r : b_m < w5'.heap.size := HR_m.out.lt
   have lt_e_r : b_e < w5'.heap.size := HR_e.out.lt
   have lt_p_r : b_p < w5'.heap.size := HR_p.out.lt
   have le_r : w.heap.size ≤ w5'.heap.size := HW.out.size
   replace HR_s := Lib.hid (HR_s.out.ext hbz)
   replace HR_o := Lib.hid (HR_o.out.ext hbz)
   replace HR_m := Lib.hid (HR_m.out.ext hbz)
   replace HR_e := Lib.hid (HR_e.out.ext hbz)
   replace HR_p := Lib.hid (HR_p.out.ext hbz)
   replace HX := Lib.hid (HX.out.ext hbz)
   replace HXK := Lib.hid (HXK.out.ext hbz)
   replace HW := Lib.hid (ext_trans HW.out hbz)
   clear hbz
   have HR_r : Hid (RH w6' w5'.heap.size #[.string (showN qk), .string (showD qk)] 23) := Lib.hid hR0
   clear hR0
   generalize w5'.heap.size = b_r at *
   obtain ⟨c_r_0, c_r_1⟩ := zs2 HR_r.out
   go_wp2_with fail
   refine (trimPrefix_at (showN qk) (show_size HFK.out.1).1 w6').mono ?_
   rintro e w7' ⟨rfl, hw9⟩
   have hbz : Below w6'.heap.size w6' w7' := by rw [← hw9]; exact Below.refl _ _
   clear hw9
   replace HR_s := Lib.hid (HR_s.out.ext hbz)
   replace HR_o := Lib.hid (HR_o.out.ext hbz)
   replace HR_m := Lib.hid (HR_m.out.ext hbz)
   replace HR_e := Lib.hid (HR_e.out.ext hbz)
   replace HR_p := Lib.hid (HR_p.out.ext hbz)
   replace HR_r := Lib.hid (HR_r.out.ext hbz)
   replace HX := Lib.hid (HX.out.ext hbz)
   replace HXK := Lib.hid (HXK.out.ext hbz)
   replace HW := Lib.hid (ext_trans HW.out hbz)
   clear c_r_0 c_r_1
   clear hbz
   have hcz := cutS_size (showN qk)
   have hcy := (show_size HFK.out.1).1
   unfold maxLen at hcy
   obtain ⟨sz, hsz9⟩ : ∃ z, (cutS (showN qk)).size = z := ⟨_, rfl⟩
   rw [hsz9] at hcz HLB
   have HSZ := Lib.hid hsz9
   by_cases hl : 100 < sz
   ·have HV : Hid (lgL q = true) := Lib.hid (lgK_more hlt (by rw [HLB.out]; exact decide_eq_true hl))
    have hl2 : (100 : Int) < ((cutS (showN qk)).size : Int) := by rw [hsz9]; omega
    clear hsz9
    go_wp2_with (first | (refine wpList_store_row rfl _ _ _ rfl (w.heap.size + 1) (mrA (0) r5z) rfl rfl _ _ HR_o.out (mr_info _ _) rfl (mr_all _ _) ?_))
    obtain ⟨w8', hX⟩ : ∃ Z9, Z9 = w7'.setRow (w.heap.size + 1) (mrA (0) r5z) := ⟨_, rfl⟩
    rw [← hX]
    have n_o : Hid (RH w8' (w.heap.size + 1) (mrA (0) r5z) 47) := by rw [hX]; exact Lib.hid (HR_o.out.row _)
    have n_s : Hid (RH w8' w.heap.size (smA (n) t) 110) := by rw [hX]; exact Lib.hid (HR_s.out.row_other (show w.heap.size ≠ (w.heap.size + 1) by omega) _)
    have n_m : Hid (RH w8' b_m (mrA (n) (r5k q k)) 47) := by rw [hX]; exact Lib.hid (HR_m.out.row_other (show b_m ≠ (w.heap.size + 1) by omega) _)
    have n_e : Hid (RH w8' b_e (eA b_m t) 165) := by rw [hX]; exact Lib.hid (HR_e.out.row_other (show b_e ≠ (w.heap.size + 1) by omega) _)
    have n_p : Hid (RH w8' b_p #[.pointer (some ⟨b_m, ok, none⟩), .bool tk.b, .slice tk.a1 tk.n1 tk.c1, .slice tk.a2 tk.n2 tk.c2] 165) := by rw [hX]; exact Lib.hid (HR_p.out.row_other (show b_p ≠ (w.heap.size + 1) by omega) _)
    have n_r : Hid (RH w8' b_r #[.string (showN qk), .string (showD qk)] 23) := by rw [hX]; exact Lib.hid (HR_r.out.row_other (show b_r ≠ (w.heap.size + 1) by omega) _)
    have HK_ : ∀ p : Addr, p.block ≠ (w.heap.size + 1) → w8'.cell? p = w7'.cell? p := fun p hp => by rw [hX]; exact cell_setRow_other _ _ _ p hp
    have n_HX : Hid (SX w8' t q) := Lib.hid (HX.out.far HR_o.out.box (mr_nw _ _) HK_)
    have n_HXK : Hid (XR w8' (y3V tk) qk) := Lib.hid (HXK.out.far HR_o.out.box (mr_nw _ _) HK_)
    have nW : Hid (Below w.heap.size w w8') := by rw [hX]; exact Lib.hid (below_setRow HW.out (show w.heap.size ≤ (w.heap.size + 1) by omega) _)
    clear hX HK_ HW HR_s HR_o HR_m HR_e HR_p HR_r HX HXK
    have HR_s := n_s; clear n_s
    have HR_o := n_o; clear n_o
    have HR_m := n_m; clear n_m
    have HR_e := n_e; clear n_e
    have HR_p := n_p; clear n_p
    have HR_r := n_r; clear n_r
    have HX := n_HX; clear n_HX
    have HXK := n_HXK; clear n_HXK
    have HW := nW; clear nW
    refine bodyPost_ret (v := .tuple #[.agg (mrA (0) r5z), .int .i64 2]) ?_ rfl ⟨by unfold wrA wrF; rw [HV.out]; rfl, HW.out⟩
    have hld := run_loadVar_row (P := Tryz.prog) _ _ _ 47 _ _ _ HR_o.out Tryz.underlying47 rfl (mr_info _ _)
    rw [results_cell_tmp rfl]
    simp [asAddr, Result.andThen, hld]
   ·have HN : Hid (lgK q (k + 1) = false) := Lib.hid (by rw [lgK_step hlt, HK.out, HLB.out, decide_eq_false hl]; rfl)
    have hl2 : ¬ (100 : Int) < ((cutS (showN qk)).size : Int) := by rw [hsz9]; omega
    clear hsz9
    obtain ⟨c_p_0, -, -, -⟩ := zs4 HR_p.out
    obtain ⟨c_r_0, c_r_1⟩ := zs2 HR_r.out
    have r0 := (HR_m.out.cell ok).trans HMA.out.1
    have r1 := (HR_m.out.cell (ok + 1)).trans HMA.out.2
    have f0 := HR_m.out.fre ok
    have f1 := HR_m.out.fre (ok + 1)
    go_upto_region 9 with (fail)
    obtain ⟨w8', hX⟩ : ∃ Z9, Z9 = ((w7'.setCell ⟨b_m, ok, none⟩ (.string (showN qk))).setCell ⟨b_m, (ok + 1), none⟩ (.string (showD qk))) := ⟨_, rfl⟩
    rw [← hX]
    have n_m : Hid (RH w8' b_m (mrA (n) (r5k q (k + 1))) 47) := by rw [hX, ← HMS.out]; exact Lib.hid (((HR_m.out).set ok (.string (showN qk))).set (ok + 1) (.string (showD qk)))
    have n_s : Hid (RH w8' w.heap.size (smA (n) t) 110) := by rw [hX]; exact Lib.hid (zzo (zzo (HR_s.out) (by omega)) (by omega))
    have n_o : Hid (RH w8' (w.heap.size + 1) (mrA (0) r5z) 47) := by rw [hX]; exact Lib.hid (zzo (zzo (HR_o.out) (by omega)) (by omega))
    have n_e : Hid (RH w8' b_e (eA b_m t) 165) := by rw [hX]; exact Lib.hid (zzo (zzo (HR_e.out) (by omega)) (by omega))
    have n_p : Hid (RH w8' b_p #[.pointer (some ⟨b_m, ok, none⟩), .bool tk.b, .slice tk.a1 tk.n1 tk.c1, .slice tk.a2 tk.n2 tk.c2] 165) := by rw [hX]; exact Lib.hid (zzo (zzo (HR_p.out) (by omega)) (by omega))
    have n_r : Hid (RH w8' b_r #[.string (showN qk), .string (showD qk)] 23) := by rw [hX]; exact Lib.hid (zzo (zzo (HR_r.out) (by omega)) (by omega))
    have HK_ : ∀ p : Addr, p.block ≠ b_m → w8'.cell? p = w7'.cell? p := fun p hp => by rw [hX]; exact (cs_other hp).trans (cs_other hp)
    have n_HX : Hid (SX w8' t q) := Lib.hid (HX.out.far HR_m.out.box (mr_nw _ _) HK_)
    have n_HXK : Hid (XR w8' (y3V tk) qk) := Lib.hid (HXK.out.far HR_m.out.box (mr_nw _ _) HK_)
    have nW : Hid (Below w.heap.size w w8') := by rw [hX]; exact Lib.hid (zzw (zzw (HW.out) (by omega)) (by omega))
    clear c_p_0 c_r_0 c_r_1 r0 r1 f0 f1
    clear hX HK_ HW HR_s HR_o HR_m HR_e HR_p HR_r HX HXK
    have HR_s := n_s; clear n_s
    have HR_o := n_o; clear n_o
    have HR_m := n_m; clear n_m
    have HR_e := n_e; clear n_e
    have HR_p := n_p; clear n_p
    have HR_r := n_r; clear n_r
    have HX := n_HX; clear n_HX
    have HXK := n_HXK; clear n_HXK
    have HW := nW; clear nW
    go_wp2
    go_roundw
    case rel => exact ⟨k + 1, by omega, by go_num, HN, HR_s.out, HR_o.out, HR_m.out, HR_e.out, HX.out, HW.out⟩
    case measure => simp [intOf]; omega
  ·obtain rfl : k = 5 := by omega
   have HV : Hid (lgL q = false) := HK
   replace HR_m : Hid (RH X b_m (mrA n q.r) 47) := HR_m
   go_wp2_with (first | (refine wpList_load_row rfl _ _ rfl b_m rfl _ (mrA (n) q.r) _ _ HR_m.out Tryz.underlying47 rfl (mr_info _ _) ?_) | (refine wpList_store_row rfl _ _ _ rfl (w.heap.size + 1) (mrA (n) q.r) rfl rfl _ _ HR_o.out (mr_info _ _) rfl (mr_all _ _) ?_))
   obtain ⟨w4', hX⟩ : ∃ Z9, Z9 = X.setRow (w.heap.size + 1) (mrA (n) q.r) := ⟨_, rfl⟩
   rw [← hX]
   have n_o : Hid (RH w4' (w.heap.size + 1) (mrA (n) q.r) 47) := by rw [hX]; exact Lib.hid (HR_o.out.row _)
   have n_s : Hid (RH w4' w.heap.size (smA (n) t) 110) := by rw [hX]; exact Lib.hid (HR_s.out.row_other (show w.heap.size ≠ (w.heap.size + 1) by omega) _)
   have n_m : Hid (RH w4' b_m (mrA (n) q.r) 47) := by rw [hX]; exact Lib.hid (HR_m.out.row_other (show b_m ≠ (w.heap.size + 1) by omega) _)
   have n_e : Hid (RH w4' b_e (eA b_m t) 165) := by rw [hX]; exact Lib.hid (HR_e.out.row_other (show b_e ≠ (w.heap.size + 1) by omega) _)
   have HK_ : ∀ p : Addr, p.block ≠ (w.heap.size + 1) → w4'.cell? p = X.cell? p := fun p hp => by rw [hX]; exact cell_setRow_other _ _ _ p hp
   have n_HX : Hid (SX w4' t q) := Lib.hid (HX.out.far HR_o.out.box (mr_nw _ _) HK_)
   have nW : Hid (Below w.heap.size w w4') := by rw [hX]; exact Lib.hid (below_setRow HW.out (show w.heap.size ≤ (w.heap.size + 1) by omega) _)
   clear hX HK_ HW HR_s HR_o HR_m HR_e HX
   have HR_s := n_s; clear n_s
   have HR_o := n_o; clear n_o
   have HR_m := n_m; clear n_m
   have HR_e := n_e; clear n_e
   have HX := n_HX; clear n_HX
   have HW := nW; clear nW
   refine bodyPost_ret (v := .tuple #[.agg (mrA (n) q.r), .int .i64 0]) ?_ rfl ⟨by unfold wrA wrF; rw [HV.out]; rfl, HW.out⟩
   have hld := run_loadVar_row (P := Tryz.prog) _ _ _ 47 _ _ _ HR_o.out Tryz.underlying47 rfl (mr_info _ _)
   rw [results_cell_tmp rfl]
   simp [asAddr, Result.andThen, hld]
end Nm
end Go.Proofs.YtilolnjbpokdnaaGreatDoor
