/- Plain: sums of real pairs are possible ones; a number added to all that is measured leaves the variance as it was. No program stands in it. Rows: blocks of which all cells are known; a whole row read, and written. No program stands in it. Rows of moments (11 cells), rows of sums (16 cells), and the numbers that these read as. The sizes alone are the program's. -/
import Derived.Test.YtilolnjbpokdnaaBd16
import Derived.Test.YtilolnjbpokdnaaBd00
import Derived.Deep.WholeRow
import Derived.Laws.CopyOwn
import Derived.Test.YtilolnjbpokdnaaBd15
namespace Go.Proofs.Ytilolnjbpokdnaa
open Go.RowKit
namespace Nm
/-- the form that the sums make with two weights: n times the sum of squares less the square of the sum -/
structure PSD (n : Int) (m : M5) : Prop where
  xx : 0 ≤ m.xx
  yy : 0 ≤ m.yy
  form : ∀ s t : Int, 0 ≤ (n * m.xx - m.x * m.x) * (s * s) + 2 * (n * m.xy - m.x * m.y) * (s * t) + (n * m.yy - m.y * m.y) * (t * t)
  dist : ∀ s t c : Int, 0 ≤ s * s * m.xx + 2 * (s * t) * m.xy + t * t * m.yy - 2 * c * (s * m.x + t * m.y) + n * (c * c)
theorem sq_nn (a : Int) : 0 ≤ a * a := by
  rcases Int.le_total 0 a with h | h
  · exact Int.mul_nonneg h h
  · have := Int.mul_nonneg (Int.neg_nonneg_of_nonpos h) (Int.neg_nonneg_of_nonpos h)
    rwa [Int.neg_mul_neg] at this
theorem PSD.zero : PSD 0 m5z := ⟨by decide, by decide, fun s t => by simp [m5z], fun s t c => by simp [m5z]⟩
theorem PSD.step {n : Int} {m : M5} (h : PSD n m) (p : PX) : PSD (n + 1) (m5s m p) := by
  obtain ⟨h1, h2, h3, h4⟩ := h
  refine ⟨Int.add_nonneg h1 (sq_nn _), Int.add_nonneg h2 (sq_nn _), fun s t => ?_, fun s t c => ?_⟩
  · have a1 := h3 s t
    have a2 := h4 s t (s * p.x + t * p.y)
    have e : ((n + 1) * (m5s m p).xx - (m5s m p).x * (m5s m p).x) * (s * s) + 2 * ((n + 1) * (m5s m p).xy - (m5s m p).x * (m5s m p).y) * (s * t) + ((n + 1) * (m5s m p).yy - (m5s m p).y * (m5s m p).y) * (t * t)
        = ((n * m.xx - m.x * m.x) * (s * s) + 2 * (n * m.xy - m.x * m.y) * (s * t) + (n * m.yy - m.y * m.y) * (t * t)) + (s * s * m.xx + 2 * (s * t) * m.xy + t * t * m.yy - 2 * (s * p.x + t * p.y) * (s * m.x + t * m.y) + n * ((s * p.x + t * p.y) * (s * p.x + t * p.y))) := by
      simp only [m5s]; grind
    rw [e]; exact Int.add_nonneg a1 a2
  · have a1 := h4 s t c
    have a2 := sq_nn (s * p.x + t * p.y - c)
    have e : s * s * (m5s m p).xx + 2 * (s * t) * (m5s m p).xy + t * t * (m5s m p).yy - 2 * c * (s * (m5s m p).x + t * (m5s m p).y) + (n + 1) * (c * c)
        = (s * s * m.xx + 2 * (s * t) * m.xy + t * t * m.yy - 2 * c * (s * m.x + t * m.y) + n * (c * c)) + (s * p.x + t * p.y - c) * (s * p.x + t * p.y - c) := by
      simp only [m5s]; grind
    rw [e]; exact Int.add_nonneg a1 a2
theorem PSD.list : ∀ (l : List PX) {n : Int} {m : M5}, PSD n m → PSD (n + (l.length : Int)) (m5L m l)
  | [], n, m, h => by simpa [m5L] using h
  | p :: r, n, m, h => by
    have h1 := PSD.list r (h.step p)
    have e : n + 1 + (r.length : Int) = n + ((p :: r).length : Int) := by simp only [List.length_cons]; omega
    rw [e] at h1
    exact h1
theorem PSD.facts {n : Int} {m : M5} (h : PSD n m) : 0 ≤ n * m.xx - m.x * m.x ∧ 0 ≤ n * m.yy - m.y * m.y ∧ (n * m.xy - m.x * m.y) * (n * m.xy - m.x * m.y) ≤ (n * m.xx - m.x * m.x) * (n * m.yy - m.y * m.y) := by
  have f := h.form
  generalize n * m.xx - m.x * m.x = A at f
  generalize n * m.yy - m.y * m.y = B at f
  generalize n * m.xy - m.x * m.y = C at f
  have hA : 0 ≤ A := by simpa using f 1 0
  have hB : 0 ≤ B := by simpa using f 0 1
  refine ⟨hA, hB, ?_⟩
  rcases Int.lt_or_eq_of_le hB with hB1 | hB0
  · have h1 := f B (-C)
    have e : A * (B * B) + 2 * C * (B * -C) + B * (-C * -C) = B * (A * B - C * C) := by grind
    rw [e] at h1
    have h2 := Int.nonneg_of_mul_nonneg_right h1 hB1
    omega
  · subst hB0
    have h1 := f 1 (-(C * (A + 1)))
    have e : A * (1 * 1) + 2 * C * (1 * -(C * (A + 1))) + 0 * (-(C * (A + 1)) * -(C * (A + 1))) = A - 2 * ((C * C) * (A + 1)) := by grind
    rw [e] at h1
    rw [Int.mul_zero]
    have hC := sq_nn C
    rcases Int.lt_or_eq_of_le hC with h2 | h2
    · have h3 : 1 * (A + 1) ≤ (C * C) * (A + 1) := Int.mul_le_mul_of_nonneg_right h2 (by omega)
      omega
    · omega
theorem cast_nn {z : Int} (h : 0 ≤ z) : (0 : Rat) ≤ (z : Rat) := by
  have := Rat.intCast_le_intCast.2 h
  simpa using this
theorem df_cast (n : Int) (m : M5) : dfA n (m5q m) = ((n * m.xx - m.x * m.x : Int) : Rat) ∧ dfB n (m5q m) = ((n * m.yy - m.y * m.y : Int) : Rat) ∧ dfC n (m5q m) = ((n * m.xy - m.x * m.y : Int) : Rat) := by
  simp only [dfA, dfB, dfC, m5q, Rat.intCast_sub, Rat.intCast_mul, and_self]
/-- real sums are possible -/
theorem pos_sums (l : List PX) : posB (l.length : Int) (m5q (m5L m5z l)) = true := by
  have h := PSD.list l PSD.zero
  rw [Int.zero_add] at h
  unfold posB
  by_cases h0 : (l.length : Int) = 0
  · rw [if_pos h0]
    have : l = [] := List.length_eq_zero_iff.1 (by omega)
    subst this
    decide +kernel
  · rw [if_neg h0, posB1_iff]
    obtain ⟨e1, e2, e3⟩ := df_cast (l.length : Int) (m5L m5z l)
    obtain ⟨f1, f2, f3⟩ := h.facts
    rw [e1, e2, e3]
    refine ⟨cast_nn h.xx, cast_nn h.yy, cast_nn f1, cast_nn f2, ?_⟩
    rw [← Rat.intCast_mul, ← Rat.intCast_mul]
    exact Rat.intCast_le_intCast.2 f3
end Nm
end Go.Proofs.Ytilolnjbpokdnaa
namespace Go.Proofs.Ytilolnjbpokdnaa
open Go.RowKit
namespace Nt
/-- the block b is a row of cells A -/
def RH (w : World) (b : Nat) (A : Array Value) (t : TypeId) : Prop := w.heap[b]? = some (.cells A t (0, 0))
theorem RH.lt {w : World} {b : Nat} {A : Array Value} {t : TypeId} (h : RH w b A t) : b < w.heap.size := (Array.getElem?_eq_some_iff.1 h).1
theorem RH.ext {w w' : World} {b : Nat} {A : Array Value} {t : TypeId} (h : RH w b A t) (hb : Below w.heap.size w w') : RH w' b A t := by
  unfold RH; rw [hb.block b h.lt]; exact h
theorem RH.cell {w : World} {b : Nat} {A : Array Value} {t : TypeId} (h : RH w b A t) (j : Nat) : w.cell? ⟨b, j, none⟩ = A[j]? := cell_of_row w b j A t _ h
theorem RH.fre {w : World} {b : Nat} {A : Array Value} {t : TypeId} (h : RH w b A t) (j : Nat) : w.frozen? ⟨b, j, none⟩ = false := by
  unfold RH at h
  simp [World.frozen?, h]
theorem RH.new (w : World) (A : Array Value) (t : TypeId) : RH (w.alloc (.cells A t)) w.heap.size A t := heap_alloc_last w _
theorem RH.row {w : World} {b : Nat} {A : Array Value} {t : TypeId} (h : RH w b A t) (A' : Array Value) : RH (w.setRow b A') b A' t := setRow_heap w b A A' t _ h
theorem RH.row_other {w : World} {b b' : Nat} {A : Array Value} {t : TypeId} (h : RH w b A t) (hne : b ≠ b') (A' : Array Value) : RH (w.setRow b' A') b A t := by
  unfold RH; rw [setRow_other w b' b A' hne]; exact h
theorem RH.set {w : World} {b : Nat} {A : Array Value} {t : TypeId} (h : RH w b A t) (j : Nat) (v : Value) : RH (w.setCell ⟨b, j, none⟩ v) b (A.setIfInBounds j v) t := by
  rw [setCell_eq_setRow w b j A t _ v h]; exact h.row _
theorem RH.set_other {w : World} {b : Nat} {A : Array Value} {t : TypeId} (h : RH w b A t) {p : Addr} (hne : b ≠ p.block) (v : Value) : RH (w.setCell p v) b A t := by
  unfold RH World.setCell
  simp only [Array.getElem?_modify]
  rw [if_neg (fun e => hne e.symm)]; exact h
theorem RH.other {w : World} {b : Nat} {A : Array Value} {t : TypeId} (h : RH w b A t) {p : Addr} (hne : b ≠ p.block) (v : Value) : RH (w.setCell p v) b A t := h.set_other hne v
theorem box_row {w : World} {b b' : Nat} {A : Array Value} (h : Box w b A) (hne : b ≠ b') (A' : Array Value) : Box (w.setRow b' A') b A :=
  ⟨by rw [setRow_size]; exact h.1, fun j => by rw [cell_setRow_other w b' A' _ hne]; exact h.2 j⟩
theorem fre_row {w : World} {b b' : Nat} (h : Fre w b) (hne : b ≠ b') (A' : Array Value) : Fre (w.setRow b' A') b := fun j => by
  have := h j
  unfold World.frozen? at *
  rw [setRow_other w b' b A' hne]; exact this
theorem store_cells {P : Program} {w : World} {g : Nat} {t ty : TypeId} {old A : Array Value} (hg : RH w g old t) (hi : (P.info? ty).map (·.size) = some A.size) (ho : old.size = A.size) (h1 : A.all (·.oneCell') = true) :
    (storeCells ⟨g, 0, none⟩ A.toList 0).run P w = .ok () (w.setRow g A) := by
  have := run_storeVar_row (P := P) w g t ty old A hg hi ho h1
  cases hq : P.info? ty with
  | none => simp [hq] at hi
  | some i =>
    have hs : A.size = i.size := by simp [hq] at hi; omega
    simpa [storeVar, sizeOf, typeInfo, hq, Value.cells, hs] using this
theorem RH.box {w : World} {b : Nat} {A : Array Value} {t : TypeId} (h : RH w b A t) : Box w b A := ⟨h.lt, fun j => h.cell j⟩
theorem RH.free {w : World} {b : Nat} {A : Array Value} {t : TypeId} (h : RH w b A t) : Fre w b := fun j => h.fre j
end Nt
open Nt (RH RH.cell RH.other)
theorem zs2 {w : World} {b : Nat} {t : TypeId} {a0 a1 : Value} (h : RH w b #[a0, a1] t) : w.cell? ⟨b, 0, none⟩ = some a0 ∧ w.cell? ⟨b, 1, none⟩ = some a1 := ⟨(h.cell 0).trans rfl, (h.cell 1).trans rfl⟩
theorem zs3 {w : World} {b : Nat} {t : TypeId} {a0 a1 a2 : Value} (h : RH w b #[a0, a1, a2] t) : w.cell? ⟨b, 0, none⟩ = some a0 ∧ w.cell? ⟨b, 1, none⟩ = some a1 ∧ w.cell? ⟨b, 2, none⟩ = some a2 := ⟨(h.cell 0).trans rfl, (h.cell 1).trans rfl, (h.cell 2).trans rfl⟩
theorem zs4 {w : World} {b : Nat} {t : TypeId} {a0 a1 a2 a3 : Value} (h : RH w b #[a0, a1, a2, a3] t) : w.cell? ⟨b, 0, none⟩ = some a0 ∧ w.cell? ⟨b, 1, none⟩ = some a1 ∧ w.cell? ⟨b, 2, none⟩ = some a2 ∧ w.cell? ⟨b, 3, none⟩ = some a3 := ⟨(h.cell 0).trans rfl, (h.cell 1).trans rfl, (h.cell 2).trans rfl, (h.cell 3).trans rfl⟩
theorem zs11 {w : World} {b : Nat} {t : TypeId} {a0 a1 a2 a3 a4 a5 a6 a7 a8 a9 a10 : Value} (h : RH w b #[a0, a1, a2, a3, a4, a5, a6, a7, a8, a9, a10] t) : w.cell? ⟨b, 0, none⟩ = some a0 ∧ w.cell? ⟨b, 1, none⟩ = some a1 ∧ w.cell? ⟨b, 2, none⟩ = some a2 ∧ w.cell? ⟨b, 3, none⟩ = some a3 ∧ w.cell? ⟨b, 4, none⟩ = some a4 ∧ w.cell? ⟨b, 5, none⟩ = some a5 ∧ w.cell? ⟨b, 6, none⟩ = some a6 ∧ w.cell? ⟨b, 7, none⟩ = some a7 ∧ w.cell? ⟨b, 8, none⟩ = some a8 ∧ w.cell? ⟨b, 9, none⟩ = some a9 ∧ w.cell? ⟨b, 10, none⟩ = some a10 := ⟨(h.cell 0).trans rfl, (h.cell 1).trans rfl, (h.cell 2).trans rfl, (h.cell 3).trans rfl, (h.cell 4).trans rfl, (h.cell 5).trans rfl, (h.cell 6).trans rfl, (h.cell 7).trans rfl, (h.cell 8).trans rfl, (h.cell 9).trans rfl, (h.cell 10).trans rfl⟩
theorem zs16 {w : World} {b : Nat} {t : TypeId} {a0 a1 a2 a3 a4 a5 a6 a7 a8 a9 a10 a11 a12 a13 a14 a15 : Value} (h : RH w b #[a0, a1, a2, a3, a4, a5, a6, a7, a8, a9, a10, a11, a12, a13, a14, a15] t) : w.cell? ⟨b, 0, none⟩ = some a0 ∧ w.cell? ⟨b, 1, none⟩ = some a1 ∧ w.cell? ⟨b, 2, none⟩ = some a2 ∧ w.cell? ⟨b, 3, none⟩ = some a3 ∧ w.cell? ⟨b, 4, none⟩ = some a4 ∧ w.cell? ⟨b, 5, none⟩ = some a5 ∧ w.cell? ⟨b, 6, none⟩ = some a6 ∧ w.cell? ⟨b, 7, none⟩ = some a7 ∧ w.cell? ⟨b, 8, none⟩ = some a8 ∧ w.cell? ⟨b, 9, none⟩ = some a9 ∧ w.cell? ⟨b, 10, none⟩ = some a10 ∧ w.cell? ⟨b, 11, none⟩ = some a11 ∧ w.cell? ⟨b, 12, none⟩ = some a12 ∧ w.cell? ⟨b, 13, none⟩ = some a13 ∧ w.cell? ⟨b, 14, none⟩ = some a14 ∧ w.cell? ⟨b, 15, none⟩ = some a15 := ⟨(h.cell 0).trans rfl, (h.cell 1).trans rfl, (h.cell 2).trans rfl, (h.cell 3).trans rfl, (h.cell 4).trans rfl, (h.cell 5).trans rfl, (h.cell 6).trans rfl, (h.cell 7).trans rfl, (h.cell 8).trans rfl, (h.cell 9).trans rfl, (h.cell 10).trans rfl, (h.cell 11).trans rfl, (h.cell 12).trans rfl, (h.cell 13).trans rfl, (h.cell 14).trans rfl, (h.cell 15).trans rfl⟩
theorem zzo {w : World} {b d j : Nat} {A : Array Value} {t : TypeId} {v : Value} (h : RH w b A t) (hne : b ≠ d) : RH (w.setCell ⟨d, j, none⟩ v) b A t := h.other hne v
theorem zzw {w w' : World} {n b j : Nat} {v : Value} (h : Below n w w') (hn : n ≤ b) : Below n w (w'.setCell ⟨b, j, none⟩ v) := h.setCell hn v
end Go.Proofs.Ytilolnjbpokdnaa
namespace Go.Proofs.Ytilolnjbpokdnaa
open Go.RowKit
namespace Nm
open _root_.Go.Proofs.Ytilolnjbpokdnaa.Nt (RH RH.cell RH.box RH.row RH.lt RH.new RH.ext)
/-- five numbers as the program keeps them -/
structure Y5 where
  x : Y3
  y : Y3
  xx : Y3
  yy : Y3
  xy : Y3
def smA (n : Int) (t : Y5) : Array Value := #[.int .i64 n, .bool t.x.b, .slice t.x.a1 t.x.n1 t.x.c1, .slice t.x.a2 t.x.n2 t.x.c2, .bool t.y.b, .slice t.y.a1 t.y.n1 t.y.c1, .slice t.y.a2 t.y.n2 t.y.c2, .bool t.xx.b, .slice t.xx.a1 t.xx.n1 t.xx.c1, .slice t.xx.a2 t.xx.n2 t.xx.c2, .bool t.yy.b, .slice t.yy.a1 t.yy.n1 t.yy.c1, .slice t.yy.a2 t.yy.n2 t.yy.c2, .bool t.xy.b, .slice t.xy.a1 t.xy.n1 t.xy.c1, .slice t.xy.a2 t.xy.n2 t.xy.c2]
structure SX (w : World) (t : Y5) (q : Q5) : Prop where
  x : XR w (y3V t.x) q.x
  y : XR w (y3V t.y) q.y
  xx : XR w (y3V t.xx) q.xx
  yy : XR w (y3V t.yy) q.yy
  xy : XR w (y3V t.xy) q.xy
theorem SX.ext {w w' : World} {t : Y5} {q : Q5} (h : SX w t q) (hb : Below w.heap.size w w') : SX w' t q := ⟨h.x.ext hb, h.y.ext hb, h.xx.ext hb, h.yy.ext hb, h.xy.ext hb⟩
/-- no cell is a word of a number -/
def NoW (A : Array Value) : Prop := ∀ (j : Nat) (u : Value), A[j]? = some u → isWord u = false
theorem noW_all {A : Array Value} (h : A.all (fun u => !isWord u) = true) : NoW A := fun j u hu => by
  have h1 := Array.all_eq_true_iff_forall_mem.1 h u (Array.mem_of_getElem? hu)
  simpa using h1
theorem sm_nw (n : Int) (t : Y5) : NoW (smA n t) := noW_all (by simp [smA, isWord])
def y3z : Y3 := ⟨false, none, 0, 0, none, 0, 0⟩
def y5z : Y5 := ⟨y3z, y3z, y3z, y3z, y3z⟩
/-- moments as texts -/
def mrA (n : Int) (r : R5) : Array Value := #[.int .i64 n, .string r.x.n, .string r.x.d, .string r.y.n, .string r.y.d, .string r.xx.n, .string r.xx.d, .string r.yy.n, .string r.yy.d, .string r.xy.n, .string r.xy.d]
theorem mr_nw (n : Int) (r : R5) : NoW (mrA n r) := noW_all (by simp [mrA, isWord])
def rtz : RT := ⟨⟨#[]⟩, ⟨#[]⟩⟩
def r5z : R5 := ⟨rtz, rtz, rtz, rtz, rtz⟩
theorem XR.row {w : World} {b : Nat} {A : Array Value} {t : TypeId} {v : Value} {q : Rat} (h : XR w v q) (hR : RH w b A t) (hn : NoW A) (A' : Array Value) : XR (w.setRow b A') v q := by
  obtain ⟨v1, v2, h0, h1, h2⟩ := h
  have hk : ∀ p : Addr, p.block ≠ b → (w.setRow b A').cell? p = w.cell? p := fun p hp => cell_setRow_other w b A' p hp
  exact ⟨v1, v2, h0, h1.keepBox hR.box hn hk, h2.keepBox hR.box hn hk⟩
theorem SX.row {w : World} {b : Nat} {A : Array Value} {ty : TypeId} {t : Y5} {q : Q5} (h : SX w t q) (hR : RH w b A ty) (hn : NoW A) (A' : Array Value) : SX (w.setRow b A') t q :=
  ⟨h.x.row hR hn A', h.y.row hR hn A', h.xx.row hR hn A', h.yy.row hR hn A', h.xy.row hR hn A'⟩
theorem sm_all (n : Int) (t : Y5) : (smA n t).all (·.oneCell') = true := by simp [smA, Value.oneCell']
theorem mr_all (n : Int) (r : R5) : (mrA n r).all (·.oneCell') = true := by simp [mrA, Value.oneCell']
theorem cs_other {w : World} {b o : Nat} {v : Value} {p : Addr} (hp : p.block ≠ b) : (w.setCell ⟨b, o, none⟩ v).cell? p = w.cell? p := World.cell?_setCell_other _ _ _ _ (fun e => hp (by rw [← e]))
theorem _root_.Go.Proofs.Ytilolnjbpokdnaa.Nm.XR.far {w w' : World} {b : Nat} {A : Array Value} {v : Value} {q : Rat} (h : XR w v q) (hA : Box w b A) (hn : NoW A) (hk : ∀ p : Addr, p.block ≠ b → w'.cell? p = w.cell? p) : XR w' v q := by
  obtain ⟨v1, v2, h0, h1, h2⟩ := h
  exact ⟨v1, v2, h0, h1.keepBox hA hn hk, h2.keepBox hA hn hk⟩
theorem SX.far {w w' : World} {b : Nat} {A : Array Value} {t : Y5} {q : Q5} (h : SX w t q) (hA : Box w b A) (hn : NoW A) (hk : ∀ p : Addr, p.block ≠ b → w'.cell? p = w.cell? p) : SX w' t q :=
  ⟨h.x.far hA hn hk, h.y.far hA hn hk, h.xx.far hA hn hk, h.yy.far hA hn hk, h.xy.far hA hn hk⟩
/-- a number as its three cells -/
theorem XR.y3 {w : World} {v : Value} {q : Rat} (h : XR w v q) : ∃ t : Y3, v = .agg #[.bool t.b, .slice t.a1 t.n1 t.c1, .slice t.a2 t.n2 t.c2] ∧ XR w (y3V t) q := by
  obtain ⟨a1, c1, a2, c2, rfl, _, _⟩ := h.open_
  exact ⟨⟨_, _, _, _, _, _, _⟩, rfl, h⟩
theorem XR.neg_is {w : World} {t : Y3} {q : Rat} (h : XR w (y3V t) q) : t.b = decide (q.num < 0) := by
  obtain ⟨v1, v2, h0, _, _⟩ := h
  injection h0 with h0
  have h3 : some (Value.bool t.b) = some (Value.bool (decide (q.num < 0))) := congrArg (fun a : Array Value => a[0]?) h0
  exact Value.bool.inj (Option.some.inj h3)
theorem mr_info (n : Int) (r : R5) : (Try.prog.info? 27).map (·.size) = some (mrA n r).size := (by kernel_rfl : (Try.prog.info? 27).map (·.size) = some 11)
theorem sm_info (n : Int) (t : Y5) : (Try.prog.info? 45).map (·.size) = some (smA n t).size := (by kernel_rfl : (Try.prog.info? 45).map (·.size) = some 16)
/-- what is written up to the k-th sum -/
def r5k (q : Q5) (k : Nat) : R5 := ⟨if 0 < k then shR q.x else rtz, if 1 < k then shR q.y else rtz, if 2 < k then shR q.xx else rtz, if 3 < k then shR q.yy else rtz, if 4 < k then shR q.xy else rtz⟩
def fq (q : Q5) : Nat → Rat
  | 0 => q.x
  | 1 => q.y
  | 2 => q.xx
  | 3 => q.yy
  | _ => q.xy
def fy (t : Y5) : Nat → Y3
  | 0 => t.x
  | 1 => t.y
  | 2 => t.xx
  | 3 => t.yy
  | _ => t.xy
theorem SX.at {w : World} {t : Y5} {q : Q5} (h : SX w t q) : ∀ k, XR w (y3V (fy t k)) (fq q k)
  | 0 => h.x
  | 1 => h.y
  | 2 => h.xx
  | 3 => h.yy
  | _ + 4 => h.xy
theorem r5k_step {n : Int} {q : Q5} {k : Nat} (h : k < 5) : ((mrA n (r5k q k)).setIfInBounds (1 + 2 * k) (.string (showN (fq q k)))).setIfInBounds (1 + 2 * k + 1) (.string (showD (fq q k))) = mrA n (r5k q (k + 1)) := by
  match k, h with
  | 0, _ => rfl
  | 1, _ => rfl
  | 2, _ => rfl
  | 3, _ => rfl
  | 4, _ => rfl
theorem r5k_at {n : Int} {q : Q5} {k : Nat} (h : k < 5) : (mrA n (r5k q k))[1 + 2 * k]? = some (.string ⟨#[]⟩) ∧ (mrA n (r5k q k))[1 + 2 * k + 1]? = some (.string ⟨#[]⟩) := by
  match k, h with
  | 0, _ => exact ⟨rfl, rfl⟩
  | 1, _ => exact ⟨rfl, rfl⟩
  | 2, _ => exact ⟨rfl, rfl⟩
  | 3, _ => exact ⟨rfl, rfl⟩
  | 4, _ => exact ⟨rfl, rfl⟩
/-- the list of what is to be written where -/
def eA (b : Nat) (t : Y5) : Array Value := #[.pointer (some ⟨b, 1, none⟩), .bool t.x.b, .slice t.x.a1 t.x.n1 t.x.c1, .slice t.x.a2 t.x.n2 t.x.c2, .pointer (some ⟨b, 3, none⟩), .bool t.y.b, .slice t.y.a1 t.y.n1 t.y.c1, .slice t.y.a2 t.y.n2 t.y.c2, .pointer (some ⟨b, 5, none⟩), .bool t.xx.b, .slice t.xx.a1 t.xx.n1 t.xx.c1, .slice t.xx.a2 t.xx.n2 t.xx.c2, .pointer (some ⟨b, 7, none⟩), .bool t.yy.b, .slice t.yy.a1 t.yy.n1 t.yy.c1, .slice t.yy.a2 t.yy.n2 t.yy.c2, .pointer (some ⟨b, 9, none⟩), .bool t.xy.b, .slice t.xy.a1 t.xy.n1 t.xy.c1, .slice t.xy.a2 t.xy.n2 t.xy.c2]
theorem eA_at {b : Nat} {t : Y5} {k : Nat} (h : k < 5) : (eA b t)[k * 4]? = some (.pointer (some ⟨b, 1 + 2 * k, none⟩)) ∧ (eA b t)[k * 4 + 1]? = some (.bool (fy t k).b) ∧ (eA b t)[k * 4 + 2]? = some (.slice (fy t k).a1 (fy t k).n1 (fy t k).c1) ∧ (eA b t)[k * 4 + 3]? = some (.slice (fy t k).a2 (fy t k).n2 (fy t k).c2) := by
  match k, h with
  | 0, _ => exact ⟨rfl, rfl, rfl, rfl⟩
  | 1, _ => exact ⟨rfl, rfl, rfl, rfl⟩
  | 2, _ => exact ⟨rfl, rfl, rfl, rfl⟩
  | 3, _ => exact ⟨rfl, rfl, rfl, rfl⟩
  | 4, _ => exact ⟨rfl, rfl, rfl, rfl⟩
/-- too long numbers among the first k -/
def lgK (q : Q5) (k : Nat) : Bool := (q.l.take k).any lgB
theorem lgK_step {q : Q5} {k : Nat} (h : k < 5) : lgK q (k + 1) = (lgK q k || lgB (fq q k)) := by
  match k, h with
  | 0, _ => simp [lgK, Q5.l, fq]
  | 1, _ => simp [lgK, Q5.l, fq]
  | 2, _ => simp [lgK, Q5.l, fq, Bool.or_assoc]
  | 3, _ => simp [lgK, Q5.l, fq, Bool.or_assoc]
  | 4, _ => simp [lgK, Q5.l, fq, Bool.or_assoc]
theorem lgK_more {q : Q5} {k : Nat} (h : k < 5) (hl : lgB (fq q k) = true) : lgL q = true := by
  unfold lgL
  rw [List.any_eq_true]
  match k, h with
  | 0, _ => exact ⟨q.x, by simp [Q5.l], hl⟩
  | 1, _ => exact ⟨q.y, by simp [Q5.l], hl⟩
  | 2, _ => exact ⟨q.xx, by simp [Q5.l], hl⟩
  | 3, _ => exact ⟨q.yy, by simp [Q5.l], hl⟩
  | 4, _ => exact ⟨q.xy, by simp [Q5.l], hl⟩
theorem QF.at {q : Q5} (h : QF q) : ∀ k, Fits (fq q k)
  | 0 => h.x
  | 1 => h.y
  | 2 => h.xx
  | 3 => h.yy
  | _ + 4 => h.xy
def wrA (n : Int) (q : Q5) : Array Value := mrA (if lgL q = true then 0 else n) (if lgL q = true then r5z else q.r)
def SmPost (w : World) (n : Int) (q : Q5) (e : Ending) (w' : World) : Prop := ∃ t : Y5, e = .returned (.agg (smA n t)) ∧ SX w' t q ∧ Below w.heap.size w w'
def TP.sm (n : Int) (q : Q5) : TP := ⟨fun w v => ∃ t : Y5, v = .agg (smA n t) ∧ SX w t q, fun _ _ _ hb h => by obtain ⟨t, h1, h2⟩ := h; exact ⟨t, h1, h2.ext hb⟩⟩
/-- a new block's row -/
def TP.row (N : Nat) (A : Array Value) (ty : TypeId) : TP := ⟨fun w v => ∃ g, v = .pointer (some ⟨g, 0, none⟩) ∧ N ≤ g ∧ RH w g A ty, fun _ _ _ hb h => by obtain ⟨g, h1, h2, h3⟩ := h; exact ⟨g, h1, h2, h3.ext hb⟩⟩
/-- sums of numbers that the program can reckon with -/
structure QS (q : Q5) : Prop where
  x : Sm q.x
  y : Sm q.y
  xx : Sm q.xx
  yy : Sm q.yy
  xy : Sm q.xy
theorem QS.at {q : Q5} (h : QS q) : ∀ k, Sm (fq q k)
  | 0 => h.x
  | 1 => h.y
  | 2 => h.xx
  | 3 => h.yy
  | _ + 4 => h.xy
theorem QL.qs {q : Q5} (h : QL q) : QS q := ⟨h.x.sm (by omega) (by omega), h.y.sm (by omega) (by omega), h.xx.sm (by omega) (by omega), h.yy.sm (by omega) (by omega), h.xy.sm (by omega) (by omega)⟩
/-- a block of which all cells are known, that may be written -/
structure BF (w : World) (b : Nat) (A : Array Value) : Prop where
  box : Box w b A
  free : Fre w b
theorem BF.lt {w : World} {b : Nat} {A : Array Value} (h : BF w b A) : b < w.heap.size := h.box.1
theorem BF.cell {w : World} {b : Nat} {A : Array Value} (h : BF w b A) (j : Nat) : w.cell? ⟨b, j, none⟩ = A[j]? := h.box.2 j
theorem BF.fre {w : World} {b : Nat} {A : Array Value} (h : BF w b A) (j : Nat) : w.frozen? ⟨b, j, none⟩ = false := h.free j
theorem BF.ext {w w' : World} {b : Nat} {A : Array Value} (h : BF w b A) (hb : Below w.heap.size w w') : BF w' b A := ⟨h.box.ext hb, h.free.ext h.box hb⟩
theorem BF.set {w : World} {b : Nat} {A : Array Value} (h : BF w b A) (j : Nat) (hj : j < A.size) (v : Value) : BF (w.setCell ⟨b, j, none⟩ v) b (A.setIfInBounds j v) := by
  refine ⟨⟨by simp [World.setCell]; exact h.box.1, fun i => ?_⟩, fun i => by rw [World.frozen?_setCell]; exact h.free i⟩
  by_cases hij : i = j
  · subst hij
    rw [World.cell?_setCell_same _ _ _ ((h.box.2 i).trans (Array.getElem?_eq_getElem hj))]
    simp [hj]
  · rw [World.cell?_setCell_other _ _ _ _ (fun e => hij (by injection e with _ e2 _; exact e2.symm)), h.box.2 i, Array.getElem?_setIfInBounds]
    rw [if_neg (fun e => hij e.symm)]
theorem BF.other {w : World} {b : Nat} {A : Array Value} (h : BF w b A) {p : Addr} (hne : b ≠ p.block) (v : Value) : BF (w.setCell p v) b A :=
  ⟨⟨by simp [World.setCell]; exact h.box.1, fun i => by rw [World.cell?_setCell_other _ _ _ _ (fun e => hne (by rw [e]))]; exact h.box.2 i⟩, fun i => by rw [World.frozen?_setCell]; exact h.free i⟩
theorem BF.row_other {w : World} {b b' : Nat} {A : Array Value} (h : BF w b A) (hne : b ≠ b') (A' : Array Value) : BF (w.setRow b' A') b A := ⟨Nt.box_row h.box hne A', Nt.fre_row h.free hne A'⟩
/-- rows that a region lays -/
theorem wp_rows1 {P : Program} {c : Code} {Q : Exit → Act → World → Prop} {a : Act} {w : World} {A : Array Value} {t : TypeId}
    (h : ∀ W, Below w.heap.size w W → RH W w.heap.size A t → c.wp P Q a W) : c.wp P Q a (w.alloc (.cells A t)) := h _ (ext_alloc _ _) (RH.new _ _ _)
theorem wp_rows2 {P : Program} {c : Code} {Q : Exit → Act → World → Prop} {a : Act} {w : World} {A B : Array Value} {t u : TypeId}
    (h : ∀ W, Below w.heap.size w W → RH W w.heap.size A t → RH W (w.heap.size + 1) B u → c.wp P Q a W) : c.wp P Q a ((w.alloc (.cells A t)).alloc (.cells B u)) := by
  refine h _ (by go_grown) ((RH.new w A t).ext (ext_alloc _ _)) ?_
  have := RH.new (w.alloc (.cells A t)) B u
  simpa using this
theorem wp_rows3 {P : Program} {c : Code} {Q : Exit → Act → World → Prop} {a : Act} {w : World} {A B C : Array Value} {t u v : TypeId}
    (h : ∀ W, Below w.heap.size w W → RH W w.heap.size A t → RH W (w.heap.size + 1) B u → RH W (w.heap.size + 2) C v → c.wp P Q a W) : c.wp P Q a (((w.alloc (.cells A t)).alloc (.cells B u)).alloc (.cells C v)) := by
  refine h _ (by go_grown) (((RH.new w A t).ext (ext_alloc _ _)).ext (ext_alloc _ _)) ?_ ?_
  · have := (RH.new (w.alloc (.cells A t)) B u).ext (ext_alloc _ (.cells C v))
    simpa using this
  · have := RH.new ((w.alloc (.cells A t)).alloc (.cells B u)) C v
    simpa using this
end Nm
end Go.Proofs.Ytilolnjbpokdnaa
