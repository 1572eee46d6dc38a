/- Rows: blocks of which all cells are known; a whole row read, and written. No program stands in it. Rows of moments (11 cells), rows of sums (16 cells), and the numbers that these read as. The sizes alone are the program's. none, add, moments of package metric. Printed by gen_mom.py. -/
import Derived.Test.YtlbnjgnbpiidaaaGreatDoorB800
import Derived.Deep.WholeRow
import Derived.Laws.CopyOwn
import Derived.Test.YtlbnjgnbpiidaaaGreatDoorB828
import Derived.Test.YtlbnjgnbpiidaaaGreatDoorB827
import Derived.Test.YtlbnjgnbpiidaaaGreatDoorB813
import Derived.Deep.MidRow
namespace Go.Proofs.YtlbnjgnbpiidaaaGreatDoor
open Go.RowKit
namespace Nt
/-- the block b is a row of cells A -/
def RH (w : World) (b : Nat) (A : Array Value) (t : TypeId) : Prop := w.heap[b]? = some (.cells A t (0, 0))
theorem RH.lt {w : World} {b : Nat} {A : Array Value} {t : TypeId} (h : RH w b A t) : b < w.heap.size := (Array.getElem?_eq_some_iff.1 h).1
theorem RH.ext {w w' : World} {b : Nat} {A : Array Value} {t : TypeId} (h : RH w b A t) (hb : Below w.heap.size w w') : RH w' b A t := by
  unfold RH; rw [hb.block b h.lt]; exact h
theorem RH.cell {w : World} {b : Nat} {A : Array Value} {t : TypeId} (h : RH w b A t) (j : Nat) : w.cell? ⟨b, j, none⟩ = A[j]? := cell_of_row w b j A t _ h
theorem RH.fre {w : World} {b : Nat} {A : Array Value} {t : TypeId} (h : RH w b A t) (j : Nat) : w.frozen? ⟨b, j, none⟩ = false := by
  unfold RH at h
  simp [World.frozen?, h]
theorem RH.new (w : World) (A : Array Value) (t : TypeId) : RH (w.alloc (.cells A t)) w.heap.size A t := heap_alloc_last w _
theorem RH.row {w : World} {b : Nat} {A : Array Value} {t : TypeId} (h : RH w b A t) (A' : Array Value) : RH (w.setRow b A') b A' t := setRow_heap w b A A' t _ h
theorem RH.row_other {w : World} {b b' : Nat} {A : Array Value} {t : TypeId} (h : RH w b A t) (hne : b ≠ b') (A' : Array Value) : RH (w.setRow b' A') b A t := by
  unfold RH; rw [setRow_other w b' b A' hne]; exact h
theorem RH.set {w : World} {b : Nat} {A : Array Value} {t : TypeId} (h : RH w b A t) (j : Nat) (v : Value) : RH (w.setCell ⟨b, j, none⟩ v) b (A.setIfInBounds j v) t := by
  rw [setCell_eq_setRow w b j A t _ v h]; exact h.row _
theorem RH.set_other {w : World} {b : Nat} {A : Array Value} {t : TypeId} (h : RH w b A t) {p : Addr} (hne : b ≠ p.block) (v : Value) : RH (w.setCell p v) b A t := by
  unfold RH World.setCell
  simp only [Array.getElem?_modify]
  rw [if_neg (fun e => hne e.symm)]; exact h
theorem RH.other {w : World} {b : Nat} {A : Array Value} {t : TypeId} (h : RH w b A t) {p : Addr} (hne : b ≠ p.block) (v : Value) : RH (w.setCell p v) b A t := h.set_other hne v
theorem box_row {w : World} {b b' : Nat} {A : Array Value} (h : Box w b A) (hne : b ≠ b') (A' : Array Value) : Box (w.setRow b' A') b A :=
  ⟨by rw [setRow_size]; exact h.1, fun j => by rw [cell_setRow_other w b' A' _ hne]; exact h.2 j⟩
theorem fre_row {w : World} {b b' : Nat} (h : Fre w b) (hne : b ≠ b') (A' : Array Value) : Fre (w.setRow b' A') b := fun j => by
  have := h j
  unfold World.frozen? at *
  rw [setRow_other w b' b A' hne]; exact this
theorem store_cells {P : Program} {w : World} {g : Nat} {t ty : TypeId} {old A : Array Value} (hg : RH w g old t) (hi : (P.info? ty).map (·.size) = some A.size) (ho : old.size = A.size) (h1 : A.all (·.oneCell') = true) :
    (storeCells ⟨g, 0, none⟩ A.toList 0).run P w = .ok () (w.setRow g A) := by
  have := run_storeVar_row (P := P) w g t ty old A hg hi ho h1
  cases hq : P.info? ty with
  | none => simp [hq] at hi
  | some i =>
    have hs : A.size = i.size := by simp [hq] at hi; omega
    simpa [storeVar, sizeOf, typeInfo, hq, Value.cells, hs] using this
theorem RH.box {w : World} {b : Nat} {A : Array Value} {t : TypeId} (h : RH w b A t) : Box w b A := ⟨h.lt, fun j => h.cell j⟩
theorem RH.free {w : World} {b : Nat} {A : Array Value} {t : TypeId} (h : RH w b A t) : Fre w b := fun j => h.fre j
end Nt
open Nt (RH RH.cell RH.other)
theorem zs2 {w : World} {b : Nat} {t : TypeId} {a0 a1 : Value} (h : RH w b #[a0, a1] t) : w.cell? ⟨b, 0, none⟩ = some a0 ∧ w.cell? ⟨b, 1, none⟩ = some a1 := ⟨(h.cell 0).trans rfl, (h.cell 1).trans rfl⟩
theorem zs3 {w : World} {b : Nat} {t : TypeId} {a0 a1 a2 : Value} (h : RH w b #[a0, a1, a2] t) : w.cell? ⟨b, 0, none⟩ = some a0 ∧ w.cell? ⟨b, 1, none⟩ = some a1 ∧ w.cell? ⟨b, 2, none⟩ = some a2 := ⟨(h.cell 0).trans rfl, (h.cell 1).trans rfl, (h.cell 2).trans rfl⟩
theorem zs5 {w : World} {b : Nat} {t : TypeId} {a0 a1 a2 a3 a4 : Value} (h : RH w b #[a0, a1, a2, a3, a4] t) : w.cell? ⟨b, 0, none⟩ = some a0 ∧ w.cell? ⟨b, 1, none⟩ = some a1 ∧ w.cell? ⟨b, 2, none⟩ = some a2 ∧ w.cell? ⟨b, 3, none⟩ = some a3 ∧ w.cell? ⟨b, 4, none⟩ = some a4 := ⟨(h.cell 0).trans rfl, (h.cell 1).trans rfl, (h.cell 2).trans rfl, (h.cell 3).trans rfl, (h.cell 4).trans rfl⟩
theorem zs11 {w : World} {b : Nat} {t : TypeId} {a0 a1 a2 a3 a4 a5 a6 a7 a8 a9 a10 : Value} (h : RH w b #[a0, a1, a2, a3, a4, a5, a6, a7, a8, a9, a10] t) : w.cell? ⟨b, 0, none⟩ = some a0 ∧ w.cell? ⟨b, 1, none⟩ = some a1 ∧ w.cell? ⟨b, 2, none⟩ = some a2 ∧ w.cell? ⟨b, 3, none⟩ = some a3 ∧ w.cell? ⟨b, 4, none⟩ = some a4 ∧ w.cell? ⟨b, 5, none⟩ = some a5 ∧ w.cell? ⟨b, 6, none⟩ = some a6 ∧ w.cell? ⟨b, 7, none⟩ = some a7 ∧ w.cell? ⟨b, 8, none⟩ = some a8 ∧ w.cell? ⟨b, 9, none⟩ = some a9 ∧ w.cell? ⟨b, 10, none⟩ = some a10 := ⟨(h.cell 0).trans rfl, (h.cell 1).trans rfl, (h.cell 2).trans rfl, (h.cell 3).trans rfl, (h.cell 4).trans rfl, (h.cell 5).trans rfl, (h.cell 6).trans rfl, (h.cell 7).trans rfl, (h.cell 8).trans rfl, (h.cell 9).trans rfl, (h.cell 10).trans rfl⟩
theorem zs16 {w : World} {b : Nat} {t : TypeId} {a0 a1 a2 a3 a4 a5 a6 a7 a8 a9 a10 a11 a12 a13 a14 a15 : Value} (h : RH w b #[a0, a1, a2, a3, a4, a5, a6, a7, a8, a9, a10, a11, a12, a13, a14, a15] t) : w.cell? ⟨b, 0, none⟩ = some a0 ∧ w.cell? ⟨b, 1, none⟩ = some a1 ∧ w.cell? ⟨b, 2, none⟩ = some a2 ∧ w.cell? ⟨b, 3, none⟩ = some a3 ∧ w.cell? ⟨b, 4, none⟩ = some a4 ∧ w.cell? ⟨b, 5, none⟩ = some a5 ∧ w.cell? ⟨b, 6, none⟩ = some a6 ∧ w.cell? ⟨b, 7, none⟩ = some a7 ∧ w.cell? ⟨b, 8, none⟩ = some a8 ∧ w.cell? ⟨b, 9, none⟩ = some a9 ∧ w.cell? ⟨b, 10, none⟩ = some a10 ∧ w.cell? ⟨b, 11, none⟩ = some a11 ∧ w.cell? ⟨b, 12, none⟩ = some a12 ∧ w.cell? ⟨b, 13, none⟩ = some a13 ∧ w.cell? ⟨b, 14, none⟩ = some a14 ∧ w.cell? ⟨b, 15, none⟩ = some a15 := ⟨(h.cell 0).trans rfl, (h.cell 1).trans rfl, (h.cell 2).trans rfl, (h.cell 3).trans rfl, (h.cell 4).trans rfl, (h.cell 5).trans rfl, (h.cell 6).trans rfl, (h.cell 7).trans rfl, (h.cell 8).trans rfl, (h.cell 9).trans rfl, (h.cell 10).trans rfl, (h.cell 11).trans rfl, (h.cell 12).trans rfl, (h.cell 13).trans rfl, (h.cell 14).trans rfl, (h.cell 15).trans rfl⟩
theorem zzo {w : World} {b d j : Nat} {A : Array Value} {t : TypeId} {v : Value} (h : RH w b A t) (hne : b ≠ d) : RH (w.setCell ⟨d, j, none⟩ v) b A t := h.other hne v
theorem zzw {w w' : World} {n b j : Nat} {v : Value} (h : Below n w w') (hn : n ≤ b) : Below n w (w'.setCell ⟨b, j, none⟩ v) := h.setCell hn v
end Go.Proofs.YtlbnjgnbpiidaaaGreatDoor
namespace Go.Proofs.YtlbnjgnbpiidaaaGreatDoor
open Go.RowKit
namespace Nm
open _root_.Go.Proofs.YtlbnjgnbpiidaaaGreatDoor.Nt (RH RH.cell RH.box RH.row RH.lt RH.new RH.ext)
/-- five numbers as the program keeps them -/
structure Y5 where
  x : Y3
  y : Y3
  xx : Y3
  yy : Y3
  xy : Y3
def smA (n : Int) (t : Y5) : Array Value := #[.int .i64 n, .bool t.x.b, .slice t.x.a1 t.x.n1 t.x.c1, .slice t.x.a2 t.x.n2 t.x.c2, .bool t.y.b, .slice t.y.a1 t.y.n1 t.y.c1, .slice t.y.a2 t.y.n2 t.y.c2, .bool t.xx.b, .slice t.xx.a1 t.xx.n1 t.xx.c1, .slice t.xx.a2 t.xx.n2 t.xx.c2, .bool t.yy.b, .slice t.yy.a1 t.yy.n1 t.yy.c1, .slice t.yy.a2 t.yy.n2 t.yy.c2, .bool t.xy.b, .slice t.xy.a1 t.xy.n1 t.xy.c1, .slice t.xy.a2 t.xy.n2 t.xy.c2]
structure SX (w : World) (t : Y5) (q : Q5) : Prop where
  x : XR w (y3V t.x) q.x
  y : XR w (y3V t.y) q.y
  xx : XR w (y3V t.xx) q.xx
  yy : XR w (y3V t.yy) q.yy
  xy : XR w (y3V t.xy) q.xy
theorem SX.ext {w w' : World} {t : Y5} {q : Q5} (h : SX w t q) (hb : Below w.heap.size w w') : SX w' t q := ⟨h.x.ext hb, h.y.ext hb, h.xx.ext hb, h.yy.ext hb, h.xy.ext hb⟩
/-- no cell is a word of a number -/
def NoW (A : Array Value) : Prop := ∀ (j : Nat) (u : Value), A[j]? = some u → isWord u = false
theorem noW_all {A : Array Value} (h : A.all (fun u => !isWord u) = true) : NoW A := fun j u hu => by
  have h1 := Array.all_eq_true_iff_forall_mem.1 h u (Array.mem_of_getElem? hu)
  simpa using h1
theorem sm_nw (n : Int) (t : Y5) : NoW (smA n t) := noW_all (by simp [smA, isWord])
def y3z : Y3 := ⟨false, none, 0, 0, none, 0, 0⟩
def y5z : Y5 := ⟨y3z, y3z, y3z, y3z, y3z⟩
/-- moments as texts -/
def mrA (n : Int) (r : R5) : Array Value := #[.int .i64 n, .string r.x.n, .string r.x.d, .string r.y.n, .string r.y.d, .string r.xx.n, .string r.xx.d, .string r.yy.n, .string r.yy.d, .string r.xy.n, .string r.xy.d]
theorem XR.row {w : World} {b : Nat} {A : Array Value} {t : TypeId} {v : Value} {q : Rat} (h : XR w v q) (hR : RH w b A t) (hn : NoW A) (A' : Array Value) : XR (w.setRow b A') v q := by
  obtain ⟨v1, v2, h0, h1, h2⟩ := h
  have hk : ∀ p : Addr, p.block ≠ b → (w.setRow b A').cell? p = w.cell? p := fun p hp => cell_setRow_other w b A' p hp
  exact ⟨v1, v2, h0, h1.keepBox hR.box hn hk, h2.keepBox hR.box hn hk⟩
theorem SX.row {w : World} {b : Nat} {A : Array Value} {ty : TypeId} {t : Y5} {q : Q5} (h : SX w t q) (hR : RH w b A ty) (hn : NoW A) (A' : Array Value) : SX (w.setRow b A') t q :=
  ⟨h.x.row hR hn A', h.y.row hR hn A', h.xx.row hR hn A', h.yy.row hR hn A', h.xy.row hR hn A'⟩
theorem sm_all (n : Int) (t : Y5) : (smA n t).all (·.oneCell') = true := by simp [smA, Value.oneCell']
theorem cs_other {w : World} {b o : Nat} {v : Value} {p : Addr} (hp : p.block ≠ b) : (w.setCell ⟨b, o, none⟩ v).cell? p = w.cell? p := World.cell?_setCell_other _ _ _ _ (fun e => hp (by rw [← e]))
theorem _root_.Go.Proofs.YtlbnjgnbpiidaaaGreatDoor.Nm.XR.far {w w' : World} {b : Nat} {A : Array Value} {v : Value} {q : Rat} (h : XR w v q) (hA : Box w b A) (hn : NoW A) (hk : ∀ p : Addr, p.block ≠ b → w'.cell? p = w.cell? p) : XR w' v q := by
  obtain ⟨v1, v2, h0, h1, h2⟩ := h
  exact ⟨v1, v2, h0, h1.keepBox hA hn hk, h2.keepBox hA hn hk⟩
theorem SX.far {w w' : World} {b : Nat} {A : Array Value} {t : Y5} {q : Q5} (h : SX w t q) (hA : Box w b A) (hn : NoW A) (hk : ∀ p : Addr, p.block ≠ b → w'.cell? p = w.cell? p) : SX w' t q :=
  ⟨h.x.far hA hn hk, h.y.far hA hn hk, h.xx.far hA hn hk, h.yy.far hA hn hk, h.xy.far hA hn hk⟩
/-- a number as its three cells -/
theorem XR.y3 {w : World} {v : Value} {q : Rat} (h : XR w v q) : ∃ t : Y3, v = .agg #[.bool t.b, .slice t.a1 t.n1 t.c1, .slice t.a2 t.n2 t.c2] ∧ XR w (y3V t) q := by
  obtain ⟨a1, c1, a2, c2, rfl, _, _⟩ := h.open_
  exact ⟨⟨_, _, _, _, _, _, _⟩, rfl, h⟩
theorem XR.neg_is {w : World} {t : Y3} {q : Rat} (h : XR w (y3V t) q) : t.b = decide (q.num < 0) := by
  obtain ⟨v1, v2, h0, _, _⟩ := h
  injection h0 with h0
  have h3 : some (Value.bool t.b) = some (Value.bool (decide (q.num < 0))) := congrArg (fun a : Array Value => a[0]?) h0
  exact Value.bool.inj (Option.some.inj h3)
theorem mr_info (n : Int) (r : R5) : (Tryz.prog.info? 35).map (·.size) = some (mrA n r).size := (by kernel_rfl : (Tryz.prog.info? 35).map (·.size) = some 11)
theorem sm_info (n : Int) (t : Y5) : (Tryz.prog.info? 59).map (·.size) = some (smA n t).size := (by kernel_rfl : (Tryz.prog.info? 59).map (·.size) = some 16)
def fq (q : Q5) : Nat → Rat
  | 0 => q.x
  | 1 => q.y
  | 2 => q.xx
  | 3 => q.yy
  | _ => q.xy
def fy (t : Y5) : Nat → Y3
  | 0 => t.x
  | 1 => t.y
  | 2 => t.xx
  | 3 => t.yy
  | _ => t.xy
theorem SX.at {w : World} {t : Y5} {q : Q5} (h : SX w t q) : ∀ k, XR w (y3V (fy t k)) (fq q k)
  | 0 => h.x
  | 1 => h.y
  | 2 => h.xx
  | 3 => h.yy
  | _ + 4 => h.xy
theorem QF.at {q : Q5} (h : QF q) : ∀ k, Fits (fq q k)
  | 0 => h.x
  | 1 => h.y
  | 2 => h.xx
  | 3 => h.yy
  | _ + 4 => h.xy
def SmPost (w : World) (n : Int) (q : Q5) (e : Ending) (w' : World) : Prop := ∃ t : Y5, e = .returned (.agg (smA n t)) ∧ SX w' t q ∧ Below w.heap.size w w'
def TP.sm (n : Int) (q : Q5) : TP := ⟨fun w v => ∃ t : Y5, v = .agg (smA n t) ∧ SX w t q, fun _ _ _ hb h => by obtain ⟨t, h1, h2⟩ := h; exact ⟨t, h1, h2.ext hb⟩⟩
/-- a new block's row -/
def TP.row (N : Nat) (A : Array Value) (ty : TypeId) : TP := ⟨fun w v => ∃ g, v = .pointer (some ⟨g, 0, none⟩) ∧ N ≤ g ∧ RH w g A ty, fun _ _ _ hb h => by obtain ⟨g, h1, h2, h3⟩ := h; exact ⟨g, h1, h2, h3.ext hb⟩⟩
/-- sums of numbers that the program can reckon with -/
structure QS (q : Q5) : Prop where
  x : Sm q.x
  y : Sm q.y
  xx : Sm q.xx
  yy : Sm q.yy
  xy : Sm q.xy
theorem QS.at {q : Q5} (h : QS q) : ∀ k, Sm (fq q k)
  | 0 => h.x
  | 1 => h.y
  | 2 => h.xx
  | 3 => h.yy
  | _ + 4 => h.xy
theorem QL.qs {q : Q5} (h : QL q) : QS q := ⟨h.x.sm (by omega) (by omega), h.y.sm (by omega) (by omega), h.xx.sm (by omega) (by omega), h.yy.sm (by omega) (by omega), h.xy.sm (by omega) (by omega)⟩
/-- a block of which all cells are known, that may be written -/
structure BF (w : World) (b : Nat) (A : Array Value) : Prop where
  box : Box w b A
  free : Fre w b
theorem BF.lt {w : World} {b : Nat} {A : Array Value} (h : BF w b A) : b < w.heap.size := h.box.1
theorem BF.cell {w : World} {b : Nat} {A : Array Value} (h : BF w b A) (j : Nat) : w.cell? ⟨b, j, none⟩ = A[j]? := h.box.2 j
theorem BF.fre {w : World} {b : Nat} {A : Array Value} (h : BF w b A) (j : Nat) : w.frozen? ⟨b, j, none⟩ = false := h.free j
theorem BF.ext {w w' : World} {b : Nat} {A : Array Value} (h : BF w b A) (hb : Below w.heap.size w w') : BF w' b A := ⟨h.box.ext hb, h.free.ext h.box hb⟩
theorem BF.set {w : World} {b : Nat} {A : Array Value} (h : BF w b A) (j : Nat) (hj : j < A.size) (v : Value) : BF (w.setCell ⟨b, j, none⟩ v) b (A.setIfInBounds j v) := by
  refine ⟨⟨by simp [World.setCell]; exact h.box.1, fun i => ?_⟩, fun i => by rw [World.frozen?_setCell]; exact h.free i⟩
  by_cases hij : i = j
  · subst hij
    rw [World.cell?_setCell_same _ _ _ ((h.box.2 i).trans (Array.getElem?_eq_getElem hj))]
    simp [hj]
  · rw [World.cell?_setCell_other _ _ _ _ (fun e => hij (by injection e with _ e2 _; exact e2.symm)), h.box.2 i, Array.getElem?_setIfInBounds]
    rw [if_neg (fun e => hij e.symm)]
theorem BF.other {w : World} {b : Nat} {A : Array Value} (h : BF w b A) {p : Addr} (hne : b ≠ p.block) (v : Value) : BF (w.setCell p v) b A :=
  ⟨⟨by simp [World.setCell]; exact h.box.1, fun i => by rw [World.cell?_setCell_other _ _ _ _ (fun e => hne (by rw [e]))]; exact h.box.2 i⟩, fun i => by rw [World.frozen?_setCell]; exact h.free i⟩
theorem BF.row_other {w : World} {b b' : Nat} {A : Array Value} (h : BF w b A) (hne : b ≠ b') (A' : Array Value) : BF (w.setRow b' A') b A := ⟨Nt.box_row h.box hne A', Nt.fre_row h.free hne A'⟩
/-- rows that a region lays -/
theorem wp_rows1 {P : Program} {c : Code} {Q : Exit → Act → World → Prop} {a : Act} {w : World} {A : Array Value} {t : TypeId}
    (h : ∀ W, Below w.heap.size w W → RH W w.heap.size A t → c.wp P Q a W) : c.wp P Q a (w.alloc (.cells A t)) := h _ (ext_alloc _ _) (RH.new _ _ _)
theorem wp_rows2 {P : Program} {c : Code} {Q : Exit → Act → World → Prop} {a : Act} {w : World} {A B : Array Value} {t u : TypeId}
    (h : ∀ W, Below w.heap.size w W → RH W w.heap.size A t → RH W (w.heap.size + 1) B u → c.wp P Q a W) : c.wp P Q a ((w.alloc (.cells A t)).alloc (.cells B u)) := by
  refine h _ (by go_grown) ((RH.new w A t).ext (ext_alloc _ _)) ?_
  have := RH.new (w.alloc (.cells A t)) B u
  simpa using this
theorem wp_rows3 {P : Program} {c : Code} {Q : Exit → Act → World → Prop} {a : Act} {w : World} {A B C : Array Value} {t u v : TypeId}
    (h : ∀ W, Below w.heap.size w W → RH W w.heap.size A t → RH W (w.heap.size + 1) B u → RH W (w.heap.size + 2) C v → c.wp P Q a W) : c.wp P Q a (((w.alloc (.cells A t)).alloc (.cells B u)).alloc (.cells C v)) := by
  refine h _ (by go_grown) (((RH.new w A t).ext (ext_alloc _ _)).ext (ext_alloc _ _)) ?_ ?_
  · have := (RH.new (w.alloc (.cells A t)) B u).ext (ext_alloc _ (.cells C v))
    simpa using this
  · have := RH.new ((w.alloc (.cells A t)).alloc (.cells B u)) C v
    simpa using this
theorem wp_rows4 {P : Program} {c : Code} {Q : Exit → Act → World → Prop} {a : Act} {w : World} {A B C D : Array Value} {t u v x : TypeId}
    (h : ∀ W, Below w.heap.size w W → RH W w.heap.size A t → RH W (w.heap.size + 1) B u → RH W (w.heap.size + 2) C v → RH W (w.heap.size + 3) D x → c.wp P Q a W) : c.wp P Q a ((((w.alloc (.cells A t)).alloc (.cells B u)).alloc (.cells C v)).alloc (.cells D x)) := by
  refine h _ (by go_grown) ((((RH.new w A t).ext (ext_alloc _ _)).ext (ext_alloc _ _)).ext (ext_alloc _ _)) ?_ ?_ ?_
  · have := ((RH.new (w.alloc (.cells A t)) B u).ext (ext_alloc _ (.cells C v))).ext (ext_alloc _ (.cells D x))
    simpa using this
  · have := (RH.new ((w.alloc (.cells A t)).alloc (.cells B u)) C v).ext (ext_alloc _ (.cells D x))
    simpa using this
  · have := RH.new (((w.alloc (.cells A t)).alloc (.cells B u)).alloc (.cells C v)) D x
    simpa using this
end Nm
end Go.Proofs.YtlbnjgnbpiidaaaGreatDoor
namespace Go.Proofs.YtlbnjgnbpiidaaaGreatDoor
open Go.RowKit
namespace Nm
open _root_.Go.Proofs.YtlbnjgnbpiidaaaGreatDoor.Nt (RH RH.cell RH.box RH.row RH.lt RH.new RH.ext RH.fre RH.set RH.other RH.row_other store_cells)
set_option maxRecDepth 100000 in
set_option maxHeartbeats 16000000 in
theorem none_at (z : Rat) (hz : ((0 : Int) : Rat) = z) (w : World) : Calls Tryz.prog 27 #[] w (SmPost w 0 ⟨z, z, z, z, z⟩) := by
 have HZQ := Lib.hid hz
 clear hz
 go_enter Tryz.func27, Tryz.ntmps27
 go_upto_region 1 with (fail)
 refine wp_rows1 fun w1' hbz hR0 => ?_
 have HR_o : Hid (RH w1' w.heap.size (smA (0) y5z) 59) := Lib.hid hR0
 have HW := Lib.hid hbz
 clear hbz hR0
 go_wp2_with fail
 refine (mwhole_is 0 z HZQ.out (by decide) (by decide) w1').mono ?_
 rintro e w2' ⟨v1, rfl, hv1, hbz⟩
 obtain ⟨t0, rfl, hx0⟩ := hv1.y3
 clear hv1
 replace HR_o := Lib.hid (HR_o.out.ext hbz)
 replace HW := Lib.hid (ext_trans HW.out hbz)
 clear hbz
 have HX0 : Hid (XR w2' (y3V t0) z) := Lib.hid hx0
 clear hx0
 go_wp2_with fail
 refine (mwhole_is 0 z HZQ.out (by decide) (by decide) w2').mono ?_
 rintro e w3' ⟨v1, rfl, hv1, hbz⟩
 obtain ⟨t1, rfl, hx1⟩ := hv1.y3
 clear hv1
 replace HR_o := Lib.hid (HR_o.out.ext hbz)
 replace HX0 := Lib.hid (HX0.out.ext hbz)
 replace HW := Lib.hid (ext_trans HW.out hbz)
 clear hbz
 have HX1 : Hid (XR w3' (y3V t1) z) := Lib.hid hx1
 clear hx1
 go_wp2_with fail
 refine (mwhole_is 0 z HZQ.out (by decide) (by decide) w3').mono ?_
 rintro e w4' ⟨v1, rfl, hv1, hbz⟩
 obtain ⟨t2, rfl, hx2⟩ := hv1.y3
 clear hv1
 replace HR_o := Lib.hid (HR_o.out.ext hbz)
 replace HX0 := Lib.hid (HX0.out.ext hbz)
 replace HX1 := Lib.hid (HX1.out.ext hbz)
 replace HW := Lib.hid (ext_trans HW.out hbz)
 clear hbz
 have HX2 : Hid (XR w4' (y3V t2) z) := Lib.hid hx2
 clear hx2
 go_wp2_with fail
 refine (mwhole_is 0 z HZQ.out (by decide) (by decide) w4').mono ?_
 rintro e w5' ⟨v1, rfl, hv1, hbz⟩
 obtain ⟨t3, rfl, hx3⟩ := hv1.y3
 clear hv1
 replace HR_o := Lib.hid (HR_o.out.ext hbz)
 replace HX0 := Lib.hid (HX0.out.ext hbz)
 replace HX1 := Lib.hid (HX1.out.ext hbz)
 replace HX2 := Lib.hid (HX2.out.ext hbz)
 replace HW := Lib.hid (ext_trans HW.out hbz)
 clear hbz
 have HX3 : Hid (XR w5' (y3V t3) z) := Lib.hid hx3
 clear hx3
 go_wp2_with fail
 refine (mwhole_is 0 z HZQ.out (by decide) (by decide) w5').mono ?_
 rintro e w6' ⟨v1, rfl, hv1, hbz⟩
 obtain ⟨t4, rfl, hx4⟩ := hv1.y3
 clear hv1
 replace HR_o := Lib.hid (HR_o.out.ext hbz)
 replace HX0 := Lib.hid (HX0.out.ext hbz)
 replace HX1 := Lib.hid (HX1.out.ext hbz)
 replace HX2 := Lib.hid (HX2.out.ext hbz)
 replace HX3 := Lib.hid (HX3.out.ext hbz)
 replace HW := Lib.hid (ext_trans HW.out hbz)
 clear hbz
 have HX4 : Hid (XR w6' (y3V t4) z) := Lib.hid hx4
 clear hx4
 go_wp2_with (first | (refine wpList_store_row rfl _ _ _ rfl w.heap.size (smA (0) ⟨t0, t1, t2, t3, t4⟩) rfl rfl _ _ HR_o.out (sm_info _ _) rfl (sm_all _ _) ?_))
 obtain ⟨w7', hX⟩ : ∃ Z9, Z9 = w6'.setRow w.heap.size (smA (0) ⟨t0, t1, t2, t3, t4⟩) := ⟨_, rfl⟩
 rw [← hX]
 have n_o : Hid (RH w7' w.heap.size (smA (0) ⟨t0, t1, t2, t3, t4⟩) 59) := by rw [hX]; exact Lib.hid (HR_o.out.row _)
 have HK_ : ∀ p : Addr, p.block ≠ w.heap.size → w7'.cell? p = w6'.cell? p := fun p hp => by rw [hX]; exact cell_setRow_other _ _ _ p hp
 have n_HX0 : Hid (XR w7' (y3V t0) z) := Lib.hid (HX0.out.far HR_o.out.box (sm_nw _ _) HK_)
 have n_HX1 : Hid (XR w7' (y3V t1) z) := Lib.hid (HX1.out.far HR_o.out.box (sm_nw _ _) HK_)
 have n_HX2 : Hid (XR w7' (y3V t2) z) := Lib.hid (HX2.out.far HR_o.out.box (sm_nw _ _) HK_)
 have n_HX3 : Hid (XR w7' (y3V t3) z) := Lib.hid (HX3.out.far HR_o.out.box (sm_nw _ _) HK_)
 have n_HX4 : Hid (XR w7' (y3V t4) z) := Lib.hid (HX4.out.far HR_o.out.box (sm_nw _ _) HK_)
 have nW : Hid (Below w.heap.size w w7') := by rw [hX]; exact Lib.hid (below_setRow HW.out (show w.heap.size ≤ w.heap.size by omega) _)
 clear hX HK_ HW HR_o HX0 HX1 HX2 HX3 HX4
 have HR_o := n_o; clear n_o
 have HX0 := n_HX0; clear n_HX0
 have HX1 := n_HX1; clear n_HX1
 have HX2 := n_HX2; clear n_HX2
 have HX3 := n_HX3; clear n_HX3
 have HX4 := n_HX4; clear n_HX4
 have HW := nW; clear nW
 exact bodyPost_ret (v := .agg (smA (0) ⟨t0, t1, t2, t3, t4⟩)) (results_cell_row rfl _ _ _ _ _ _ _ rfl HR_o.out Tryz.underlying59 rfl (sm_info _ _)) rfl ⟨_, rfl, ⟨HX0.out, HX1.out, HX2.out, HX3.out, HX4.out⟩, HW.out⟩
set_option maxRecDepth 100000 in
set_option maxHeartbeats 16000000 in
theorem sumsAdd_at (n k s : Int) (hs : IntKind.i64.wrap (n + k) = s) (p q r : Q5) (hr : p.x + q.x = r.x ∧ p.y + q.y = r.y ∧ p.xx + q.xx = r.xx ∧ p.yy + q.yy = r.yy ∧ p.xy + q.xy = r.xy) (t u : Y5) (w : World) (hx : SX w t p) (hy : SX w u q) (sp : QS p) (sq : QS q) : Calls Tryz.prog 28 #[.agg (smA n t), .agg (smA k u)] w (SmPost w s r) := by
 have HS0 := Lib.hid hs
 have HP := Lib.hid hr
 have HSP := Lib.hid sp
 have HSQ := Lib.hid sq
 have HA0 := Lib.hid hx
 have HB0 := Lib.hid hy
 have hs' := hs
 clear hs hr sp sq hx hy
 go_enter Tryz.func28, Tryz.ntmps28
 go_upto_region 1 with (fail)
 refine wp_rows3 fun w1' hbz hR0 hR1 hR2 => ?_
 have HR_a : Hid (RH w1' w.heap.size (smA (n) t) 59) := Lib.hid hR0
 have HR_b : Hid (RH w1' (w.heap.size + 1) (smA (k) u) 59) := Lib.hid hR1
 have HR_o : Hid (RH w1' (w.heap.size + 2) (smA (0) y5z) 59) := Lib.hid hR2
 have HW := Lib.hid hbz
 clear hbz hR0 hR1 hR2
 have HXa : Hid (SX w1' t p) := Lib.hid (HA0.out.ext HW.out)
 have HXb : Hid (SX w1' u q) := Lib.hid (HB0.out.ext HW.out)
 clear HA0 HB0
 obtain ⟨c_a_0, c_a_1, c_a_2, c_a_3, c_a_4, c_a_5, c_a_6, c_a_7, c_a_8, c_a_9, c_a_10, c_a_11, c_a_12, c_a_13, c_a_14, c_a_15⟩ := zs16 HR_a.out
 obtain ⟨c_b_0, c_b_1, c_b_2, c_b_3, c_b_4, c_b_5, c_b_6, c_b_7, c_b_8, c_b_9, c_b_10, c_b_11, c_b_12, c_b_13, c_b_14, c_b_15⟩ := zs16 HR_b.out
 refine Grow.wp_region_grow 31 [TP.eq (.pointer (some ⟨w.heap.size, 0, none⟩)), TP.eq (.int .i64 n), TP.eq (.pointer (some ⟨(w.heap.size + 1), 0, none⟩)), TP.eq (.int .i64 k), TP.eq (.int .i64 s), TP.eq (.pointer (some ⟨w.heap.size, 1, none⟩)), TP.eq (.agg #[.bool t.x.b, .slice t.x.a1 t.x.n1 t.x.c1, .slice t.x.a2 t.x.n2 t.x.c2]), TP.eq (.pointer (some ⟨(w.heap.size + 1), 1, none⟩)), TP.eq (.agg #[.bool u.x.b, .slice u.x.a1 u.x.n1 u.x.c1, .slice u.x.a2 u.x.n2 u.x.c2]), TP.xq r.x, TP.eq (.pointer (some ⟨w.heap.size, 4, none⟩)), TP.eq (.agg #[.bool t.y.b, .slice t.y.a1 t.y.n1 t.y.c1, .slice t.y.a2 t.y.n2 t.y.c2]), TP.eq (.pointer (some ⟨(w.heap.size + 1), 4, none⟩)), TP.eq (.agg #[.bool u.y.b, .slice u.y.a1 u.y.n1 u.y.c1, .slice u.y.a2 u.y.n2 u.y.c2]), TP.xq r.y, TP.eq (.pointer (some ⟨w.heap.size, 7, none⟩)), TP.eq (.agg #[.bool t.xx.b, .slice t.xx.a1 t.xx.n1 t.xx.c1, .slice t.xx.a2 t.xx.n2 t.xx.c2]), TP.eq (.pointer (some ⟨(w.heap.size + 1), 7, none⟩)), TP.eq (.agg #[.bool u.xx.b, .slice u.xx.a1 u.xx.n1 u.xx.c1, .slice u.xx.a2 u.xx.n2 u.xx.c2]), TP.xq r.xx, TP.eq (.pointer (some ⟨w.heap.size, 10, none⟩)), TP.eq (.agg #[.bool t.yy.b, .slice t.yy.a1 t.yy.n1 t.yy.c1, .slice t.yy.a2 t.yy.n2 t.yy.c2]), TP.eq (.pointer (some ⟨(w.heap.size + 1), 10, none⟩)), TP.eq (.agg #[.bool u.yy.b, .slice u.yy.a1 u.yy.n1 u.yy.c1, .slice u.yy.a2 u.yy.n2 u.yy.c2]), TP.xq r.yy, TP.eq (.pointer (some ⟨w.heap.size, 13, none⟩)), TP.eq (.agg #[.bool t.xy.b, .slice t.xy.a1 t.xy.n1 t.xy.c1, .slice t.xy.a2 t.xy.n2 t.xy.c2]), TP.eq (.pointer (some ⟨(w.heap.size + 1), 13, none⟩)), TP.eq (.agg #[.bool u.xy.b, .slice u.xy.a1 u.xy.n1 u.xy.c1, .slice u.xy.a2 u.xy.n2 u.xy.c2]), TP.xq r.xy, TP.sm s r] [[], [0], [], [2], [1, 3], [], [5], [], [7], [6, 8], [], [10], [], [12], [11, 13], [], [15], [], [17], [16, 18], [], [20], [], [22], [21, 23], [], [25], [], [27], [26, 28], [4, 9, 14, 19, 24, 29]] (by kernel_rfl) (by kernel_rfl) ⟨?o0a, ?o1a, ?o2a, ?o3a, ?o4a, ?o5a, ?o6a, ?o7a, ?o8a, ?o9a, ?o10a, ?o11a, ?o12a, ?o13a, ?o14a, ?o15a, ?o16a, ?o17a, ?o18a, ?o19a, ?o20a, ?o21a, ?o22a, ?o23a, ?o24a, ?o25a, ?o26a, ?o27a, ?o28a, ?o29a, ?o30a, trivial⟩ ?_
 case o0a | o2a | o5a | o7a | o10a | o12a | o15a | o17a | o20a | o22a | o25a | o27a =>
  intro w' hb
  show wpList _ _ _ _ _ _
  go_wp2
  exact ⟨rfl, Below.refl _ _, rfl⟩
 case o1a =>
  intro w' hb v1 hv1
  cases hv1
  have c_a_0' := zzc hb c_a_0
  show wpList _ _ _ _ _ _
  simp only [Grow.dstOf, zzp, Act.put]
  go_wp2
  exact ⟨rfl, Below.refl _ _, rfl⟩
 case o3a | o6a | o8a | o11a | o13a | o16a | o18a | o21a | o23a | o26a | o28a =>
  intro w' hb v1 hv1
  cases hv1
  have c_b_0' := zzc hb c_b_0
  have c_a_1' := zzc hb c_a_1
  have c_a_2' := zzc hb c_a_2
  have c_a_3' := zzc hb c_a_3
  have c_b_1' := zzc hb c_b_1
  have c_b_2' := zzc hb c_b_2
  have c_b_3' := zzc hb c_b_3
  have c_a_4' := zzc hb c_a_4
  have c_a_5' := zzc hb c_a_5
  have c_a_6' := zzc hb c_a_6
  have c_b_4' := zzc hb c_b_4
  have c_b_5' := zzc hb c_b_5
  have c_b_6' := zzc hb c_b_6
  have c_a_7' := zzc hb c_a_7
  have c_a_8' := zzc hb c_a_8
  have c_a_9' := zzc hb c_a_9
  have c_b_7' := zzc hb c_b_7
  have c_b_8' := zzc hb c_b_8
  have c_b_9' := zzc hb c_b_9
  have c_a_10' := zzc hb c_a_10
  have c_a_11' := zzc hb c_a_11
  have c_a_12' := zzc hb c_a_12
  have c_b_10' := zzc hb c_b_10
  have c_b_11' := zzc hb c_b_11
  have c_b_12' := zzc hb c_b_12
  have c_a_13' := zzc hb c_a_13
  have c_a_14' := zzc hb c_a_14
  have c_a_15' := zzc hb c_a_15
  have c_b_13' := zzc hb c_b_13
  have c_b_14' := zzc hb c_b_14
  have c_b_15' := zzc hb c_b_15
  show wpList _ _ _ _ _ _
  simp only [Grow.dstOf, zzp, Act.put]
  go_wp2
  exact ⟨rfl, Below.refl _ _, rfl⟩
 case o4a =>
  intro w' hb v1 hv1 v2 hv2
  cases hv1
  cases hv2
  show wpList _ _ _ _ _ _
  simp only [Grow.dstOf, zzp, Act.put]
  go_wp2
  exact ⟨rfl, Below.refl _ _, rfl⟩
 case o9a =>
  intro w' hb v1 hv1 v2 hv2
  cases hv1
  cases hv2
  show wpList _ _ _ _ _ _
  simp only [Grow.dstOf, zzp, Act.put]
  go_wp2_with fail
  refine (xplus_sm p.x q.x r.x HP.out.1 _ _ w' (HXa.out.x.ext hb) (HXb.out.x.ext hb) HSP.out.x HSQ.out.x).mono ?_
  rintro e wz ⟨vz, rfl, hxz, hbz⟩
  go_wp2
  exact ⟨hxz, hbz, rfl⟩
 case o14a =>
  intro w' hb v1 hv1 v2 hv2
  cases hv1
  cases hv2
  show wpList _ _ _ _ _ _
  simp only [Grow.dstOf, zzp, Act.put]
  go_wp2_with fail
  refine (xplus_sm p.y q.y r.y HP.out.2.1 _ _ w' (HXa.out.y.ext hb) (HXb.out.y.ext hb) HSP.out.y HSQ.out.y).mono ?_
  rintro e wz ⟨vz, rfl, hxz, hbz⟩
  go_wp2
  exact ⟨hxz, hbz, rfl⟩
 case o19a =>
  intro w' hb v1 hv1 v2 hv2
  cases hv1
  cases hv2
  show wpList _ _ _ _ _ _
  simp only [Grow.dstOf, zzp, Act.put]
  go_wp2_with fail
  refine (xplus_sm p.xx q.xx r.xx HP.out.2.2.1 _ _ w' (HXa.out.xx.ext hb) (HXb.out.xx.ext hb) HSP.out.xx HSQ.out.xx).mono ?_
  rintro e wz ⟨vz, rfl, hxz, hbz⟩
  go_wp2
  exact ⟨hxz, hbz, rfl⟩
 case o24a =>
  intro w' hb v1 hv1 v2 hv2
  cases hv1
  cases hv2
  show wpList _ _ _ _ _ _
  simp only [Grow.dstOf, zzp, Act.put]
  go_wp2_with fail
  refine (xplus_sm p.yy q.yy r.yy HP.out.2.2.2.1 _ _ w' (HXa.out.yy.ext hb) (HXb.out.yy.ext hb) HSP.out.yy HSQ.out.yy).mono ?_
  rintro e wz ⟨vz, rfl, hxz, hbz⟩
  go_wp2
  exact ⟨hxz, hbz, rfl⟩
 case o29a =>
  intro w' hb v1 hv1 v2 hv2
  cases hv1
  cases hv2
  show wpList _ _ _ _ _ _
  simp only [Grow.dstOf, zzp, Act.put]
  go_wp2_with fail
  refine (xplus_sm p.xy q.xy r.xy HP.out.2.2.2.2 _ _ w' (HXa.out.xy.ext hb) (HXb.out.xy.ext hb) HSP.out.xy HSQ.out.xy).mono ?_
  rintro e wz ⟨vz, rfl, hxz, hbz⟩
  go_wp2
  exact ⟨hxz, hbz, rfl⟩
 case o30a =>
  intro w' hb v1 hv1 v2 hv2 v3 hv3 v4 hv4 v5 hv5 v6 hv6
  cases hv1
  have hv2' : XR w' v2 r.x := hv2
  clear hv2
  obtain ⟨t0, rfl, hx0⟩ := hv2'.y3
  have hv3' : XR w' v3 r.y := hv3
  clear hv3
  obtain ⟨t1, rfl, hx1⟩ := hv3'.y3
  have hv4' : XR w' v4 r.xx := hv4
  clear hv4
  obtain ⟨t2, rfl, hx2⟩ := hv4'.y3
  have hv5' : XR w' v5 r.yy := hv5
  clear hv5
  obtain ⟨t3, rfl, hx3⟩ := hv5'.y3
  have hv6' : XR w' v6 r.xy := hv6
  clear hv6
  obtain ⟨t4, rfl, hx4⟩ := hv6'.y3
  show wpList _ _ _ _ _ _
  simp only [Grow.dstOf, zzp, Act.put]
  go_wp2
  exact ⟨⟨⟨t0, t1, t2, t3, t4⟩, rfl, ⟨hx0, hx1, hx2, hx3, hx4⟩⟩, Below.refl _ _, rfl⟩
 intro w2' hbz u0 hu0 u1 hu1 u2 hu2 u3 hu3 u4 hu4 u5 hu5 u6 hu6 u7 hu7 u8 hu8 u9 hu9 u10 hu10 u11 hu11 u12 hu12 u13 hu13 u14 hu14 u15 hu15 u16 hu16 u17 hu17 u18 hu18 u19 hu19 u20 hu20 u21 hu21 u22 hu22 u23 hu23 u24 hu24 u25 hu25 u26 hu26 u27 hu27 u28 hu28 u29 hu29 u30 hu30
 clear hu0 hu1 hu2 hu3 hu4 hu5 hu6 hu7 hu8 hu9 hu10 hu11 hu12 hu13 hu14 hu15 hu16 hu17 hu18 hu19 hu20 hu21 hu22 hu23 hu24 hu25 hu26 hu27 hu28 hu29
 replace HR_a := Lib.hid (HR_a.out.ext hbz)
 replace HR_b := Lib.hid (HR_b.out.ext hbz)
 replace HR_o := Lib.hid (HR_o.out.ext hbz)
 replace HXa := Lib.hid (HXa.out.ext hbz)
 replace HXb := Lib.hid (HXb.out.ext hbz)
 replace HW := Lib.hid (ext_trans HW.out hbz)
 clear c_a_0 c_a_1 c_a_2 c_a_3 c_a_4 c_a_5 c_a_6 c_a_7 c_a_8 c_a_9 c_a_10 c_a_11 c_a_12 c_a_13 c_a_14 c_a_15 c_b_0 c_b_1 c_b_2 c_b_3 c_b_4 c_b_5 c_b_6 c_b_7 c_b_8 c_b_9 c_b_10 c_b_11 c_b_12 c_b_13 c_b_14 c_b_15
 clear hbz
 have h30 : ∃ t : Y5, u30 = .agg (smA s t) ∧ SX w2' t r := hu30
 clear hu30
 obtain ⟨t9, rfl, hx9⟩ := h30
 have HX9 : Hid (SX w2' t9 r) := Lib.hid (hx9)
 clear hx9
 show wpList _ _ _ _ _ _
 simp only [Act.put, zzp]
 have hsz : (smA (s) t9).size = 16 := rfl
 have hsc := store_cells (P := Tryz.prog) (ty := 59) (A := (smA (s) t9)) HR_o.out (sm_info _ _) rfl (sm_all _ _)
 go_wp2
 clear hsc hsz
 obtain ⟨w3', hX⟩ : ∃ Z9, Z9 = w2'.setRow (w.heap.size + 2) (smA (s) t9) := ⟨_, rfl⟩
 rw [← hX]
 have n_o : Hid (RH w3' (w.heap.size + 2) (smA (s) t9) 59) := by rw [hX]; exact Lib.hid (HR_o.out.row _)
 have n_a : Hid (RH w3' w.heap.size (smA (n) t) 59) := by rw [hX]; exact Lib.hid (HR_a.out.row_other (show w.heap.size ≠ (w.heap.size + 2) by omega) _)
 have n_b : Hid (RH w3' (w.heap.size + 1) (smA (k) u) 59) := by rw [hX]; exact Lib.hid (HR_b.out.row_other (show (w.heap.size + 1) ≠ (w.heap.size + 2) by omega) _)
 have HK_ : ∀ p : Addr, p.block ≠ (w.heap.size + 2) → w3'.cell? p = w2'.cell? p := fun p hp => by rw [hX]; exact cell_setRow_other _ _ _ p hp
 have n_HXa : Hid (SX w3' t p) := Lib.hid (HXa.out.far HR_o.out.box (sm_nw _ _) HK_)
 have n_HXb : Hid (SX w3' u q) := Lib.hid (HXb.out.far HR_o.out.box (sm_nw _ _) HK_)
 have n_HX9 : Hid (SX w3' t9 r) := Lib.hid (HX9.out.far HR_o.out.box (sm_nw _ _) HK_)
 have nW : Hid (Below w.heap.size w w3') := by rw [hX]; exact Lib.hid (below_setRow HW.out (show w.heap.size ≤ (w.heap.size + 2) by omega) _)
 clear hX HK_ HW HR_a HR_b HR_o HXa HXb HX9
 have HR_a := n_a; clear n_a
 have HR_b := n_b; clear n_b
 have HR_o := n_o; clear n_o
 have HXa := n_HXa; clear n_HXa
 have HXb := n_HXb; clear n_HXb
 have HX9 := n_HX9; clear n_HX9
 have HW := nW; clear nW
 exact bodyPost_ret (v := .agg (smA (s) t9)) (results_cell_row rfl _ _ _ _ _ _ _ rfl HR_o.out Tryz.underlying59 rfl (sm_info _ _)) rfl ⟨_, rfl, HX9.out, HW.out⟩
end Nm
end Go.Proofs.YtlbnjgnbpiidaaaGreatDoor
