/- What the functions of moments give, as values, and wrappers. Printed by gen_momf.py. -/
import Derived.Test.YtilolnjbpokdnaaGreatDoorMomE
namespace Go.Proofs.YtilolnjbpokdnaaGreatDoor
open Go.RowKit
namespace Nm
def rtN (f : Int) (q : Rat) : ByteArray := if f = 0 then showN q else ⟨#[]⟩
def rtD (f : Int) (q : Rat) : ByteArray := if f = 0 then showD q else ⟨#[]⟩
def nF (f n : Int) : Int := if f = 0 then n else 0
theorem rtN_0 (q : Rat) : rtN 0 q = showN q := if_pos rfl
theorem rtD_0 (q : Rat) : rtD 0 q = showD q := if_pos rfl
theorem nF_0 (n : Int) : nF 0 n = n := if_pos rfl
theorem rtN_no {f : Int} (h : f ≠ 0) (q : Rat) : rtN f q = ⟨#[]⟩ := if_neg h
theorem rtD_no {f : Int} (h : f ≠ 0) (q : Rat) : rtD f q = ⟨#[]⟩ := if_neg h
theorem nF_no {f : Int} (h : f ≠ 0) (n : Int) : nF f n = 0 := if_neg h
/-- the mean, and the variance of the mean -/
def meQ (n : Int) (q : Q5) : Rat := q.x / (n : Rat)
def veQ (n : Int) (q : Q5) : Rat := vrQ n q / (n : Rat)
def RqPost (w : World) (f : Int) (q : Rat) (e : Ending) (w' : World) : Prop := e = .returned (.tuple #[.agg #[.string (rtN f q), .string (rtD f q)], .int .i64 f]) ∧ Below w.heap.size w w'
def EsPost (w : World) (f n : Int) (m v : Rat) (e : Ending) (w' : World) : Prop := e = .returned (.tuple #[.agg #[.int .i64 (nF f n), .string (rtN f m), .string (rtD f m), .string (rtN f v), .string (rtD f v)], .int .i64 f]) ∧ Below w.heap.size w w'
def S3Post (w : World) (f : Int) (a b c : Rat) (e : Ending) (w' : World) : Prop := e = .returned (.tuple #[.agg #[.string (rtN f a), .string (rtD f a)], .agg #[.string (rtN f b), .string (rtD f b)], .agg #[.string (rtN f c), .string (rtD f c)], .int .i64 f]) ∧ Below w.heap.size w w'
def adA (n k : Int) (r s : R5) : Array Value := mrA (if adF n k r s = 0 then n + k else 0) (if adF n k r s = 0 then (q5a r.q s.q).r else r5z)
theorem ad_no {n k f : Int} {r s : R5} (h : adF n k r s = f) (hf : f ≠ 0) : adA n k r s = mrA 0 r5z := by
 unfold adA
 rw [if_neg (by rw [h]; exact hf), if_neg (by rw [h]; exact hf)]
theorem ad_wr {n k : Int} {r s : R5} (h1 : momF n r = 0) (h2 : momF k s = 0) (h3 : n + k ≤ 20000) : adA n k r s = wrA (n + k) (q5a r.q s.q) ∧ adF n k r s = wrF (q5a r.q s.q) := by
 have e : adF n k r s = wrF (q5a r.q s.q) := by
  unfold adF
  rw [if_neg (fun h => h h1), if_neg (fun h => h h2), if_neg (by omega)]
 refine ⟨?_, e⟩
 unfold adA wrA
 rw [e]
 unfold wrF
 by_cases hl : lgL (q5a r.q s.q) = true
 ·rw [if_pos hl, if_pos hl, if_pos hl]; rfl
 ·rw [if_neg hl, if_neg hl, if_neg hl]; rfl
theorem QL.me {n : Int} {q : Q5} (h : QL q) (h0 : 1 ≤ n) (h1 : n ≤ 20000) : Ln 100 5 (meQ n q) :=
 (h.x.div (ln_n (by omega) h1) (n_ne h0)).mono (by omega) (by omega)
theorem QL.ve {n : Int} {q : Q5} (h : QL q) (h0 : 2 ≤ n) (h1 : n ≤ 20000) : Ln 201 15 (veQ n q) :=
 ((h.vr h0 h1).div (ln_n (by omega) h1) (n_ne (by omega))).mono (by omega) (by omega)
theorem mom_ql {n : Int} {r : R5} (h : momF n r = 0) : 0 ≤ n ∧ n ≤ 20000 ∧ QL r.q ∧ r = r.q.r := by
 obtain ⟨⟨h0, h1⟩, _, q, e1, e2, hl, _⟩ := mom_parts h
 exact ⟨h0, h1, by rw [e2]; exact hl, by rw [e2]; exact e1⟩
theorem at_ql {k n : Int} {r : R5} (h : atF k n r = 0) : momF n r = 0 ∧ k ≤ n ∧ n ≤ 20000 ∧ QL r.q := by
 obtain ⟨h1, h2⟩ := at_parts h
 obtain ⟨_, h3, h4, _⟩ := mom_ql h1
 exact ⟨h1, h2, h3, h4⟩
theorem ratio_is (q : Rat) (hf : Fits q) (hs : Sm q) (v : Value) (w : World) (hx : XR w v q) : Calls Tryz.prog 65 #[v] w (fun e w' => e = .returned (.tuple #[.agg #[.string (showN q), .string (showD q)], .int .i64 0]) ∧ Below w.heap.size w w') := by
 refine (ratio_at q v w hx hs.1 hs.2).mono ?_
 rintro e w' ⟨rfl, hb⟩
 rw [(out_fits hf).1, (out_fits hf).2.1, (out_fits hf).2.2]
 exact ⟨rfl, hb⟩
theorem xs_2 {w : World} {m v : Rat} {tm tv : Y3} (htm : XR w (y3V tm) m) (htv : XR w (y3V tv) v) : XsQ (w.alloc (.cells #[.bool tm.b, .slice tm.a1 tm.n1 tm.c1, .slice tm.a2 tm.n2 tm.c2, .bool tv.b, .slice tv.a1 tv.n1 tv.c1, .slice tv.a2 tv.n2 tv.c2] 93)) [m, v] [tm, tv] (some ⟨w.heap.size, 0, none⟩) 2 := by
 refine ⟨rfl, Sl.new _ _ _ 2 2 (by omega) (by decide), fun i t q h1 h2 => ?_⟩
 match i with
 | 0 =>
  obtain rfl : tm = t := Option.some.inj h1
  obtain rfl : m = q := Option.some.inj h2
  exact htm.ext (ext_alloc _ _)
 | 1 =>
  obtain rfl : tv = t := Option.some.inj h1
  obtain rfl : v = q := Option.some.inj h2
  exact htv.ext (ext_alloc _ _)
 | i + 2 => simp at h1
theorem ratios2_at (m v : Rat) (tm tv : Y3) (w : World) (htm : XR w (y3V tm) m) (htv : XR w (y3V tv) v) (hf : (Fits m ∧ Sm m) ∧ (Fits v ∧ Sm v)) : Calls Tryz.prog 92 #[.slice (some ⟨w.heap.size, 0, none⟩) 2 2] (w.alloc (.cells #[.bool tm.b, .slice tm.a1 tm.n1 tm.c1, .slice tm.a2 tm.n2 tm.c2, .bool tv.b, .slice tv.a1 tv.n1 tv.c1, .slice tv.a2 tv.n2 tv.c2] 93)) (fun e w' => ∃ pa pc, e = .returned (.tuple #[.slice pa 2 pc, .int .i64 0]) ∧ Sl w' (.slice pa 2 pc) 2 ([m, v].flatMap rtC) ∧ Below w.heap.size w w') := by
 refine (ratios_at [m, v] [tm, tv] (some ⟨w.heap.size, 0, none⟩) 2 _ (xs_2 htm htv) (fun q hq => ?_) (by simp)).mono ?_
 ·simp only [List.mem_cons, List.not_mem_nil, or_false] at hq
  rcases hq with rfl | rfl
  ·exact hf.1
  ·exact hf.2
 ·rintro e w' ⟨a, c, rfl, hs, hb⟩
  exact ⟨a, c, rfl, hs, ext_trans (ext_alloc _ _) hb⟩
theorem xs_3 {w : World} {a b d : Rat} {t1 t2 t3 : Y3} (ht1 : XR w (y3V t1) a) (ht2 : XR w (y3V t2) b) (ht3 : XR w (y3V t3) d) : XsQ (w.alloc (.cells #[.bool t1.b, .slice t1.a1 t1.n1 t1.c1, .slice t1.a2 t1.n2 t1.c2, .bool t2.b, .slice t2.a1 t2.n1 t2.c1, .slice t2.a2 t2.n2 t2.c2, .bool t3.b, .slice t3.a1 t3.n1 t3.c1, .slice t3.a2 t3.n2 t3.c2] 93)) [a, b, d] [t1, t2, t3] (some ⟨w.heap.size, 0, none⟩) 3 := by
 refine ⟨rfl, Sl.new _ _ _ 3 3 (by omega) (by decide), fun i t q h1 h2 => ?_⟩
 match i with
 | 0 =>
  obtain rfl : t1 = t := Option.some.inj h1
  obtain rfl : a = q := Option.some.inj h2
  exact ht1.ext (ext_alloc _ _)
 | 1 =>
  obtain rfl : t2 = t := Option.some.inj h1
  obtain rfl : b = q := Option.some.inj h2
  exact ht2.ext (ext_alloc _ _)
 | 2 =>
  obtain rfl : t3 = t := Option.some.inj h1
  obtain rfl : d = q := Option.some.inj h2
  exact ht3.ext (ext_alloc _ _)
 | i + 3 => simp at h1
theorem ratios3_at (a b d : Rat) (t1 t2 t3 : Y3) (w : World) (ht1 : XR w (y3V t1) a) (ht2 : XR w (y3V t2) b) (ht3 : XR w (y3V t3) d) (hf : (Fits a ∧ Sm a) ∧ (Fits b ∧ Sm b) ∧ (Fits d ∧ Sm d)) : Calls Tryz.prog 92 #[.slice (some ⟨w.heap.size, 0, none⟩) 3 3] (w.alloc (.cells #[.bool t1.b, .slice t1.a1 t1.n1 t1.c1, .slice t1.a2 t1.n2 t1.c2, .bool t2.b, .slice t2.a1 t2.n1 t2.c1, .slice t2.a2 t2.n2 t2.c2, .bool t3.b, .slice t3.a1 t3.n1 t3.c1, .slice t3.a2 t3.n2 t3.c2] 93)) (fun e w' => ∃ pa pc, e = .returned (.tuple #[.slice pa 3 pc, .int .i64 0]) ∧ Sl w' (.slice pa 3 pc) 3 ([a, b, d].flatMap rtC) ∧ Below w.heap.size w w') := by
 refine (ratios_at [a, b, d] [t1, t2, t3] (some ⟨w.heap.size, 0, none⟩) 3 _ (xs_3 ht1 ht2 ht3) (fun q hq => ?_) (by simp)).mono ?_
 ·simp only [List.mem_cons, List.not_mem_nil, or_false] at hq
  rcases hq with rfl | rfl | rfl
  ·exact hf.1
  ·exact hf.2.1
  ·exact hf.2.2
 ·rintro e w' ⟨a, c, rfl, hs, hb⟩
  exact ⟨a, c, rfl, hs, ext_trans (ext_alloc _ _) hb⟩
end Nm
end Go.Proofs.YtilolnjbpokdnaaGreatDoor
