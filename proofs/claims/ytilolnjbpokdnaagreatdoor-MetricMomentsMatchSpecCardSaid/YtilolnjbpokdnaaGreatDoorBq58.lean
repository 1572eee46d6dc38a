/- Plain: moments as texts and as numbers: their faults, their sizes. No program stands in it. Rows: blocks of which all cells are known; a whole row read, and written. No program stands in it. Rows of moments (11 cells), rows of sums (16 cells), and the numbers that these read as. The sizes alone are the program's. none, add, moments of package metric. Printed by gen_mom.py. -/
import Derived.Test.YtilolnjbpokdnaaGreatDoorBq50
import Derived.Test.YtilolnjbpokdnaaGreatDoorBq57
import Derived.Test.YtilolnjbpokdnaaGreatDoorBq00
import Derived.Test.YtilolnjbpokdnaaGreatDoorBq01
import Derived.Test.YtilolnjbpokdnaaGreatDoorBq03
import Derived.Test.YtilolnjbpokdnaaGreatDoorProg
import Derived.Test.YtilolnjbpokdnaaGreatDoorBq04
import Derived.Test.YtilolnjbpokdnaaGreatDoorBq05
import Derived.Test.YtilolnjbpokdnaaGreatDoorBq06
import Derived.Test.YtilolnjbpokdnaaGreatDoorBq07
import Derived.Test.YtilolnjbpokdnaaGreatDoorBq08
import Derived.Test.YtilolnjbpokdnaaGreatDoorBq09
import Derived.Test.YtilolnjbpokdnaaGreatDoorBq10
import Derived.Test.YtilolnjbpokdnaaGreatDoorBq11
import Derived.Test.YtilolnjbpokdnaaGreatDoorBq12
import Derived.Test.YtilolnjbpokdnaaGreatDoorBq27
import Derived.Test.YtilolnjbpokdnaaGreatDoorBq13
import Derived.Test.YtilolnjbpokdnaaGreatDoorBq14
import Derived.Test.YtilolnjbpokdnaaGreatDoorBq15
import Derived.Test.YtilolnjbpokdnaaGreatDoorBq16
import Derived.Test.YtilolnjbpokdnaaGreatDoorBq17
import Derived.Test.YtilolnjbpokdnaaGreatDoorBq18
import Derived.Test.YtilolnjbpokdnaaGreatDoorShelf
import Derived.Test.YtilolnjbpokdnaaGreatDoorBq19
import Derived.Test.YtilolnjbpokdnaaGreatDoorBq28
import Derived.Test.YtilolnjbpokdnaaGreatDoorBq20
import Derived.Test.YtilolnjbpokdnaaGreatDoorBq21
import Derived.Test.YtilolnjbpokdnaaGreatDoorBq22
import Derived.Test.YtilolnjbpokdnaaGreatDoorBq23
import Derived.Test.YtilolnjbpokdnaaGreatDoorBq24
import Derived.Test.YtilolnjbpokdnaaGreatDoorBq25
import Derived.Test.YtilolnjbpokdnaaGreatDoorBq29
import Derived.Test.YtilolnjbpokdnaaGreatDoorBq26
import Derived.Test.YtilolnjbpokdnaaGreatDoorBq37
import Derived.Deep.WholeRow
import Derived.Laws.CopyOwn
import Derived.Test.YtilolnjbpokdnaaGreatDoorBq51
import Derived.Test.YtilolnjbpokdnaaGreatDoorBq41
import Derived.Deep.MidRow
namespace Go.Proofs.YtilolnjbpokdnaaGreatDoor
open Go.RowKit
namespace Nm
/-- a text is a letter -/
theorem tl_lit (d : ByteArray) (c : UInt8) : (d.toList == [c]) = decide (d = ⟨#[c]⟩) := by
  rw [Bool.eq_iff_iff]; simp only [beq_iff_eq, decide_eq_true_eq, ByteArray.toList_eq]
  constructor
  · intro h
    obtain ⟨a⟩ := d
    congr 1
    exact Array.toList_inj.1 h
  · intro h; rw [h]
/-- fault of a sum's texts -/
def smF (n d : ByteArray) : Int := if rF n d ≠ 0 then rF n d else if d ≠ ⟨#[49]⟩ then 3 else if 100 < (cutS n).size then 2 else 0
def smL : List RT → Int
  | [] => 0
  | r :: t => if smF r.n r.d ≠ 0 then smF r.n r.d else smL t
theorem smL_step {l : List RT} {k : Nat} {r : RT} (h : l[k]? = some r) : smL (l.drop k) = if smF r.n r.d ≠ 0 then smF r.n r.d else smL (l.drop (k + 1)) := by
  obtain ⟨hk, rfl⟩ := List.getElem?_eq_some_iff.1 h
  rw [List.drop_eq_getElem_cons hk]; rfl
theorem smL_all : ∀ {gs : List RT}, smL gs = 0 → ∀ r ∈ gs, smF r.n r.d = 0
  | [], _, r, hr => by cases hr
  | x :: t, h, r, hr => by
    unfold smL at h
    by_cases hx : smF x.n x.d = 0
    · rw [if_neg (fun h' => h' hx)] at h
      rcases List.mem_cons.1 hr with rfl | hr
      · exact hx
      · exact smL_all h r hr
    · rw [if_pos hx] at h; exact absurd h hx
theorem sm_parts {n d : ByteArray} (h : smF n d = 0) : rF n d = 0 ∧ ∃ q, Fits q ∧ rQ n d = q ∧ n = showN q ∧ d = showD q ∧ Ln 100 0 q := by
  unfold smF at h
  by_cases hr : rF n d = 0
  · rw [if_neg (fun h' => h' hr)] at h
    refine ⟨hr, ?_⟩
    obtain ⟨q, hq, hrq, hn, hm⟩ := Nt.show_parts hr
    by_cases hd : d = ⟨#[49]⟩
    · rw [if_neg (fun h' => h' hd)] at h
      by_cases hl : 100 < (cutS n).size
      · rw [if_pos hl] at h; cases h
      · refine ⟨q, hq, hrq, hn, hm, ?_⟩
        obtain ⟨_, h2, h3, h4, h5, h6, h7, _⟩ := rQ_facts hr
        have l1 : (cutS n).data.toList.length = (cutS n).size := Array.length_toList
        have e1 := decv_lt (Nt.whole_digs h4)
        rw [← hrq]
        constructor
        · rw [h2, sgn_natAbs]
          exact Nat.le_trans (Nat.le_of_lt e1) (ten_le (by omega))
        · rw [h3, hd]
          decide
    · rw [if_pos hd] at h; cases h
  · rw [if_pos hr] at h; exact absurd h hr
/-- the three differences: n xx - x x, n yy - y y, n xy - x y -/
def dfA (n : Int) (q : Q5) : Rat := (n : Rat) * q.xx - q.x * q.x
def dfB (n : Int) (q : Q5) : Rat := (n : Rat) * q.yy - q.y * q.y
def dfC (n : Int) (q : Q5) : Rat := (n : Rat) * q.xy - q.x * q.y
def posB1 (n : Int) (q : Q5) : Bool := decide (0 ≤ q.xx) && (decide (0 ≤ q.yy) && (decide (0 ≤ dfA n q) && (decide (0 ≤ dfB n q) && decide (dfC n q * dfC n q ≤ dfA n q * dfB n q))))
def zerB (q : Q5) : Bool := decide (q.x = 0) && (decide (q.y = 0) && (decide (q.xx = 0) && (decide (q.yy = 0) && decide (q.xy = 0))))
/-- there can be pairs with these sums -/
def posB (n : Int) (q : Q5) : Bool := if n = 0 then zerB q else posB1 n q
theorem zerB_iff {q : Q5} : zerB q = true ↔ q.x = 0 ∧ q.y = 0 ∧ q.xx = 0 ∧ q.yy = 0 ∧ q.xy = 0 := by
  unfold zerB; simp
theorem posB1_iff {n : Int} {q : Q5} : posB1 n q = true ↔ 0 ≤ q.xx ∧ 0 ≤ q.yy ∧ 0 ≤ dfA n q ∧ 0 ≤ dfB n q ∧ dfC n q * dfC n q ≤ dfA n q * dfB n q := by
  unfold posB1; simp
theorem zero_pos1 {q : Q5} (h : zerB q = true) : posB1 0 q = true := by
  obtain ⟨h1, h2, h3, h4, h5⟩ := zerB_iff.1 h
  rw [posB1_iff]
  unfold dfA dfB dfC
  rw [h1, h2, h3, h4, h5]
  decide +kernel
/-- the reference asks in two steps -/
theorem posB_steps (n : Int) (q : Q5) : posB n q = (posB1 n q && (!decide (n = 0) || zerB q)) := by
  unfold posB
  by_cases h : n = 0
  · subst h
    rw [if_pos rfl]
    by_cases hz : zerB q = true
    · rw [hz, zero_pos1 hz]; rfl
    · have hz' : zerB q = false := by simpa using hz
      rw [hz']; simp
  · rw [if_neg h, decide_eq_false h]; simp
def momF (n : Int) (r : R5) : Int := if n < 0 ∨ 20000 < n then 1 else if smL r.l ≠ 0 then smL r.l else if posB n r.q = true then 0 else 13
theorem sm_five {r : R5} (h : smL r.l = 0) : ∃ q : Q5, r = q.r ∧ r.q = q ∧ QL q := by
  have ha := smL_all h
  have f : ∀ p ∈ r.l, p = shR (rQ p.n p.d) ∧ Ln 100 0 (rQ p.n p.d) := fun p hp => by
    obtain ⟨_, q, _, hrq, hn, hd, hl⟩ := sm_parts (ha p hp)
    rw [hrq]
    refine ⟨?_, hl⟩
    obtain ⟨pn, pd⟩ := p
    simp only at hn hd
    rw [hn, hd]; rfl
  obtain ⟨x, y, xx, yy, xy⟩ := r
  refine ⟨_, ?_, rfl, ?_⟩
  · show R5.mk x y xx yy xy = R5.mk _ _ _ _ _
    congr 1
    · exact (f x (by simp [R5.l])).1
    · exact (f y (by simp [R5.l])).1
    · exact (f xx (by simp [R5.l])).1
    · exact (f yy (by simp [R5.l])).1
    · exact (f xy (by simp [R5.l])).1
  · exact ⟨(f x (by simp [R5.l])).2, (f y (by simp [R5.l])).2, (f xx (by simp [R5.l])).2, (f yy (by simp [R5.l])).2, (f xy (by simp [R5.l])).2⟩
theorem mom_parts {n : Int} {r : R5} (h : momF n r = 0) : (0 ≤ n ∧ n ≤ 20000) ∧ smL r.l = 0 ∧ ∃ q : Q5, r = q.r ∧ r.q = q ∧ QL q ∧ posB n q = true := by
  unfold momF at h
  by_cases h1 : n < 0 ∨ 20000 < n
  · rw [if_pos h1] at h; cases h
  · rw [if_neg h1] at h
    by_cases h2 : smL r.l = 0
    · rw [if_neg (fun h' => h' h2)] at h
      obtain ⟨q, e1, e2, hl⟩ := sm_five h2
      by_cases h3 : posB n r.q = true
      · exact ⟨by omega, h2, q, e1, e2, hl, by rw [← e2]; exact h3⟩
      · rw [if_neg h3] at h; cases h
    · rw [if_pos h2] at h; exact absurd h h2
/-- fault of moments that must be of at least k pairs -/
def atF (k n : Int) (r : R5) : Int := if momF n r ≠ 0 then momF n r else if n < k then 9 else 0
theorem at_parts {k n : Int} {r : R5} (h : atF k n r = 0) : momF n r = 0 ∧ k ≤ n := by
  unfold atF at h
  by_cases h1 : momF n r = 0
  · rw [if_neg (fun h' => h' h1)] at h
    by_cases h2 : n < k
    · rw [if_pos h2] at h; cases h
    · exact ⟨h1, by omega⟩
  · rw [if_pos h1] at h; exact absurd h h1
/-- the sums around the means -/
def spA (n : Int) (q : Q5) : Rat := q.xx - q.x * q.x / (n : Rat)
def spB (n : Int) (q : Q5) : Rat := q.yy - q.y * q.y / (n : Rat)
def spC (n : Int) (q : Q5) : Rat := q.xy - q.x * q.y / (n : Rat)
/-- sizes -/
theorem ln_n {n : Int} (h0 : 0 ≤ n) (h : n ≤ 20000) : Ln 5 0 (n : Rat) := Ln.int (show n.natAbs ≤ 10 ^ 5 by omega)
theorem n_ne {n : Int} (h : 1 ≤ n) : (n : Rat) ≠ 0 := by
  intro e
  have : (n : Rat) = ((0 : Int) : Rat) := e
  have := Rat.intCast_inj.1 this
  omega
theorem sp_ln {n : Int} (h0 : 1 ≤ n) (h : n ≤ 20000) {a x y : Rat} (ha : Ln 100 0 a) (hx : Ln 100 0 x) (hy : Ln 100 0 y) : Ln 200 0 (x * y) ∧ Ln 200 5 (x * y / (n : Rat)) ∧ Ln 201 5 (a - x * y / (n : Rat)) := by
  have h1 := (hx.mul hy).mono (a' := 200) (b' := 0) (by omega) (by omega)
  have h2 := (h1.div (ln_n (by omega) h) (n_ne h0)).mono (a' := 200) (b' := 5) (by omega) (by omega)
  exact ⟨h1, h2, (ha.sub h2).mono (by omega) (by omega)⟩
theorem QL.spA {n : Int} {q : Q5} (h : QL q) (h0 : 1 ≤ n) (h1 : n ≤ 20000) : Ln 201 5 (spA n q) := (sp_ln h0 h1 h.xx h.x h.x).2.2
theorem QL.spB {n : Int} {q : Q5} (h : QL q) (h0 : 1 ≤ n) (h1 : n ≤ 20000) : Ln 201 5 (spB n q) := (sp_ln h0 h1 h.yy h.y h.y).2.2
theorem QL.spC {n : Int} {q : Q5} (h : QL q) (h0 : 1 ≤ n) (h1 : n ≤ 20000) : Ln 201 5 (spC n q) := (sp_ln h0 h1 h.xy h.x h.y).2.2
theorem df_ln {n : Int} (h0 : 0 ≤ n) (h : n ≤ 20000) {a x y : Rat} (ha : Ln 100 0 a) (hx : Ln 100 0 x) (hy : Ln 100 0 y) : Ln 105 0 ((n : Rat) * a) ∧ Ln 200 0 (x * y) ∧ Ln 201 0 ((n : Rat) * a - x * y) := by
  have h1 := ((ln_n h0 h).mul ha).mono (a' := 105) (b' := 0) (by omega) (by omega)
  have h2 := (hx.mul hy).mono (a' := 200) (b' := 0) (by omega) (by omega)
  exact ⟨h1, h2, (h1.sub h2).mono (by omega) (by omega)⟩
/-- moments as cells -/
def rtC (q : Rat) : List Value := [.string (showN q), .string (showD q)]
def q5a (p q : Q5) : Q5 := ⟨p.x + q.x, p.y + q.y, p.xx + q.xx, p.yy + q.yy, p.xy + q.xy⟩
/-- Add -/
def adF (n k : Int) (r s : R5) : Int := if momF n r ≠ 0 then momF n r else if momF k s ≠ 0 then momF k s else if 20000 < n + k then 2 else wrF (q5a r.q s.q)
theorem ql_add {p q : Q5} (hp : QL p) (hq : QL q) : Ln 101 0 (p.x + q.x) ∧ Ln 101 0 (p.y + q.y) ∧ Ln 101 0 (p.xx + q.xx) ∧ Ln 101 0 (p.yy + q.yy) ∧ Ln 101 0 (p.xy + q.xy) :=
  ⟨(hp.x.add hq.x).mono (by omega) (by omega), (hp.y.add hq.y).mono (by omega) (by omega), (hp.xx.add hq.xx).mono (by omega) (by omega), (hp.yy.add hq.yy).mono (by omega) (by omega), (hp.xy.add hq.xy).mono (by omega) (by omega)⟩
end Nm
end Go.Proofs.YtilolnjbpokdnaaGreatDoor
namespace Go.Proofs.YtilolnjbpokdnaaGreatDoor
open Go.RowKit
namespace Nt
end Nt
open Nt (RH RH.cell RH.other)
theorem zs3 {w : World} {b : Nat} {t : TypeId} {a0 a1 a2 : Value} (h : RH w b #[a0, a1, a2] t) : w.cell? ⟨b, 0, none⟩ = some a0 ∧ w.cell? ⟨b, 1, none⟩ = some a1 ∧ w.cell? ⟨b, 2, none⟩ = some a2 := ⟨(h.cell 0).trans rfl, (h.cell 1).trans rfl, (h.cell 2).trans rfl⟩
theorem zs5 {w : World} {b : Nat} {t : TypeId} {a0 a1 a2 a3 a4 : Value} (h : RH w b #[a0, a1, a2, a3, a4] t) : w.cell? ⟨b, 0, none⟩ = some a0 ∧ w.cell? ⟨b, 1, none⟩ = some a1 ∧ w.cell? ⟨b, 2, none⟩ = some a2 ∧ w.cell? ⟨b, 3, none⟩ = some a3 ∧ w.cell? ⟨b, 4, none⟩ = some a4 := ⟨(h.cell 0).trans rfl, (h.cell 1).trans rfl, (h.cell 2).trans rfl, (h.cell 3).trans rfl, (h.cell 4).trans rfl⟩
theorem zs11 {w : World} {b : Nat} {t : TypeId} {a0 a1 a2 a3 a4 a5 a6 a7 a8 a9 a10 : Value} (h : RH w b #[a0, a1, a2, a3, a4, a5, a6, a7, a8, a9, a10] t) : w.cell? ⟨b, 0, none⟩ = some a0 ∧ w.cell? ⟨b, 1, none⟩ = some a1 ∧ w.cell? ⟨b, 2, none⟩ = some a2 ∧ w.cell? ⟨b, 3, none⟩ = some a3 ∧ w.cell? ⟨b, 4, none⟩ = some a4 ∧ w.cell? ⟨b, 5, none⟩ = some a5 ∧ w.cell? ⟨b, 6, none⟩ = some a6 ∧ w.cell? ⟨b, 7, none⟩ = some a7 ∧ w.cell? ⟨b, 8, none⟩ = some a8 ∧ w.cell? ⟨b, 9, none⟩ = some a9 ∧ w.cell? ⟨b, 10, none⟩ = some a10 := ⟨(h.cell 0).trans rfl, (h.cell 1).trans rfl, (h.cell 2).trans rfl, (h.cell 3).trans rfl, (h.cell 4).trans rfl, (h.cell 5).trans rfl, (h.cell 6).trans rfl, (h.cell 7).trans rfl, (h.cell 8).trans rfl, (h.cell 9).trans rfl, (h.cell 10).trans rfl⟩
end Go.Proofs.YtilolnjbpokdnaaGreatDoor
namespace Go.Proofs.YtilolnjbpokdnaaGreatDoor
open Go.RowKit
namespace Nm
open _root_.Go.Proofs.YtilolnjbpokdnaaGreatDoor.Nt (RH RH.cell RH.box RH.row RH.lt RH.new RH.ext)
theorem XR.neg_is {w : World} {t : Y3} {q : Rat} (h : XR w (y3V t) q) : t.b = decide (q.num < 0) := by
  obtain ⟨v1, v2, h0, _, _⟩ := h
  injection h0 with h0
  have h3 : some (Value.bool t.b) = some (Value.bool (decide (q.num < 0))) := congrArg (fun a : Array Value => a[0]?) h0
  exact Value.bool.inj (Option.some.inj h3)
theorem wp_rows3 {P : Program} {c : Code} {Q : Exit → Act → World → Prop} {a : Act} {w : World} {A B C : Array Value} {t u v : TypeId}
    (h : ∀ W, Below w.heap.size w W → RH W w.heap.size A t → RH W (w.heap.size + 1) B u → RH W (w.heap.size + 2) C v → c.wp P Q a W) : c.wp P Q a (((w.alloc (.cells A t)).alloc (.cells B u)).alloc (.cells C v)) := by
  refine h _ (by go_grown) (((RH.new w A t).ext (ext_alloc _ _)).ext (ext_alloc _ _)) ?_ ?_
  · have := (RH.new (w.alloc (.cells A t)) B u).ext (ext_alloc _ (.cells C v))
    simpa using this
  · have := RH.new ((w.alloc (.cells A t)).alloc (.cells B u)) C v
    simpa using this
theorem wp_rows4 {P : Program} {c : Code} {Q : Exit → Act → World → Prop} {a : Act} {w : World} {A B C D : Array Value} {t u v x : TypeId}
    (h : ∀ W, Below w.heap.size w W → RH W w.heap.size A t → RH W (w.heap.size + 1) B u → RH W (w.heap.size + 2) C v → RH W (w.heap.size + 3) D x → c.wp P Q a W) : c.wp P Q a ((((w.alloc (.cells A t)).alloc (.cells B u)).alloc (.cells C v)).alloc (.cells D x)) := by
  refine h _ (by go_grown) ((((RH.new w A t).ext (ext_alloc _ _)).ext (ext_alloc _ _)).ext (ext_alloc _ _)) ?_ ?_ ?_
  · have := ((RH.new (w.alloc (.cells A t)) B u).ext (ext_alloc _ (.cells C v))).ext (ext_alloc _ (.cells D x))
    simpa using this
  · have := (RH.new ((w.alloc (.cells A t)).alloc (.cells B u)) C v).ext (ext_alloc _ (.cells D x))
    simpa using this
  · have := RH.new (((w.alloc (.cells A t)).alloc (.cells B u)).alloc (.cells C v)) D x
    simpa using this
end Nm
end Go.Proofs.YtilolnjbpokdnaaGreatDoor
namespace Go.Proofs.YtilolnjbpokdnaaGreatDoor
open Go.RowKit
namespace Nm
open _root_.Go.Proofs.YtilolnjbpokdnaaGreatDoor.Nt (RH RH.cell RH.box RH.row RH.lt RH.new RH.ext RH.fre RH.set RH.other RH.row_other store_cells)
set_option maxRecDepth 100000 in
set_option maxHeartbeats 16000000 in
theorem sumsAdd_at (n k s : Int) (hs : IntKind.i64.wrap (n + k) = s) (p q r : Q5) (hr : p.x + q.x = r.x ∧ p.y + q.y = r.y ∧ p.xx + q.xx = r.xx ∧ p.yy + q.yy = r.yy ∧ p.xy + q.xy = r.xy) (t u : Y5) (w : World) (hx : SX w t p) (hy : SX w u q) (sp : QS p) (sq : QS q) : Calls Tryz.prog 83 #[.agg (smA n t), .agg (smA k u)] w (SmPost w s r) := by
 have HS0 := Lib.hid hs
 have HP := Lib.hid hr
 have HSP := Lib.hid sp
 have HSQ := Lib.hid sq
 have HA0 := Lib.hid hx
 have HB0 := Lib.hid hy
 have hs' := hs
 clear hs hr sp sq hx hy
 go_enter Tryz.func83, Tryz.ntmps83
 go_upto_region 1 with (fail)
 refine wp_rows3 fun w1' hbz hR0 hR1 hR2 => ?_
 have HR_a : Hid (RH w1' w.heap.size (smA (n) t) 110) := Lib.hid hR0
 have HR_b : Hid (RH w1' (w.heap.size + 1) (smA (k) u) 110) := Lib.hid hR1
 have HR_o : Hid (RH w1' (w.heap.size + 2) (smA (0) y5z) 110) := Lib.hid hR2
 have HW := Lib.hid hbz
 clear hbz hR0 hR1 hR2
 have HXa : Hid (SX w1' t p) := Lib.hid (HA0.out.ext HW.out)
 have HXb : Hid (SX w1' u q) := Lib.hid (HB0.out.ext HW.out)
 clear HA0 HB0
 obtain ⟨c_a_0, c_a_1, c_a_2, c_a_3, c_a_4, c_a_5, c_a_6, c_a_7, c_a_8, c_a_9, c_a_10, c_a_11, c_a_12, c_a_13, c_a_14, c_a_15⟩ := zs16 HR_a.out
 obtain ⟨c_b_0, c_b_1, c_b_2, c_b_3, c_b_4, c_b_5, c_b_6, c_b_7, c_b_8, c_b_9, c_b_10, c_b_11, c_b_12, c_b_13, c_b_14, c_b_15⟩ := zs16 HR_b.out
 refine Grow.wp_region_grow 31 [TP.eq (.pointer (some ⟨w.heap.size, 0, none⟩)), TP.eq (.int .i64 n), TP.eq (.pointer (some ⟨(w.heap.size + 1), 0, none⟩)), TP.eq (.int .i64 k), TP.eq (.int .i64 s), TP.eq (.pointer (some ⟨w.heap.size, 1, none⟩)), TP.eq (.agg #[.bool t.x.b, .slice t.x.a1 t.x.n1 t.x.c1, .slice t.x.a2 t.x.n2 t.x.c2]), TP.eq (.pointer (some ⟨(w.heap.size + 1), 1, none⟩)), TP.eq (.agg #[.bool u.x.b, .slice u.x.a1 u.x.n1 u.x.c1, .slice u.x.a2 u.x.n2 u.x.c2]), TP.xq r.x, TP.eq (.pointer (some ⟨w.heap.size, 4, none⟩)), TP.eq (.agg #[.bool t.y.b, .slice t.y.a1 t.y.n1 t.y.c1, .slice t.y.a2 t.y.n2 t.y.c2]), TP.eq (.pointer (some ⟨(w.heap.size + 1), 4, none⟩)), TP.eq (.agg #[.bool u.y.b, .slice u.y.a1 u.y.n1 u.y.c1, .slice u.y.a2 u.y.n2 u.y.c2]), TP.xq r.y, TP.eq (.pointer (some ⟨w.heap.size, 7, none⟩)), TP.eq (.agg #[.bool t.xx.b, .slice t.xx.a1 t.xx.n1 t.xx.c1, .slice t.xx.a2 t.xx.n2 t.xx.c2]), TP.eq (.pointer (some ⟨(w.heap.size + 1), 7, none⟩)), TP.eq (.agg #[.bool u.xx.b, .slice u.xx.a1 u.xx.n1 u.xx.c1, .slice u.xx.a2 u.xx.n2 u.xx.c2]), TP.xq r.xx, TP.eq (.pointer (some ⟨w.heap.size, 10, none⟩)), TP.eq (.agg #[.bool t.yy.b, .slice t.yy.a1 t.yy.n1 t.yy.c1, .slice t.yy.a2 t.yy.n2 t.yy.c2]), TP.eq (.pointer (some ⟨(w.heap.size + 1), 10, none⟩)), TP.eq (.agg #[.bool u.yy.b, .slice u.yy.a1 u.yy.n1 u.yy.c1, .slice u.yy.a2 u.yy.n2 u.yy.c2]), TP.xq r.yy, TP.eq (.pointer (some ⟨w.heap.size, 13, none⟩)), TP.eq (.agg #[.bool t.xy.b, .slice t.xy.a1 t.xy.n1 t.xy.c1, .slice t.xy.a2 t.xy.n2 t.xy.c2]), TP.eq (.pointer (some ⟨(w.heap.size + 1), 13, none⟩)), TP.eq (.agg #[.bool u.xy.b, .slice u.xy.a1 u.xy.n1 u.xy.c1, .slice u.xy.a2 u.xy.n2 u.xy.c2]), TP.xq r.xy, TP.sm s r] [[], [0], [], [2], [1, 3], [], [5], [], [7], [6, 8], [], [10], [], [12], [11, 13], [], [15], [], [17], [16, 18], [], [20], [], [22], [21, 23], [], [25], [], [27], [26, 28], [4, 9, 14, 19, 24, 29]] (by kernel_rfl) (by kernel_rfl) ⟨?o0a, ?o1a, ?o2a, ?o3a, ?o4a, ?o5a, ?o6a, ?o7a, ?o8a, ?o9a, ?o10a, ?o11a, ?o12a, ?o13a, ?o14a, ?o15a, ?o16a, ?o17a, ?o18a, ?o19a, ?o20a, ?o21a, ?o22a, ?o23a, ?o24a, ?o25a, ?o26a, ?o27a, ?o28a, ?o29a, ?o30a, trivial⟩ ?_
 case o0a | o2a | o5a | o7a | o10a | o12a | o15a | o17a | o20a | o22a | o25a | o27a =>
  intro w' hb
  show wpList _ _ _ _ _ _
  go_wp2
  exact ⟨rfl, Below.refl _ _, rfl⟩
 case o1a =>
  intro w' hb v1 hv1
  obtain rfl : v1 = _ := hv1
  have c_a_0' := zzc hb c_a_0
  show wpList _ _ _ _ _ _
  simp only [Grow.dstOf, zz1, zz3, zz4, Act.put, zz5, zz6, zz7]
  go_wp2
  exact ⟨rfl, Below.refl _ _, rfl⟩
 case o3a | o6a | o8a | o11a | o13a | o16a | o18a | o21a | o23a | o26a | o28a =>
  intro w' hb v1 hv1
  obtain rfl : v1 = _ := hv1
  have c_b_0' := zzc hb c_b_0
  have c_a_1' := zzc hb c_a_1
  have c_a_2' := zzc hb c_a_2
  have c_a_3' := zzc hb c_a_3
  have c_b_1' := zzc hb c_b_1
  have c_b_2' := zzc hb c_b_2
  have c_b_3' := zzc hb c_b_3
  have c_a_4' := zzc hb c_a_4
  have c_a_5' := zzc hb c_a_5
  have c_a_6' := zzc hb c_a_6
  have c_b_4' := zzc hb c_b_4
  have c_b_5' := zzc hb c_b_5
  have c_b_6' := zzc hb c_b_6
  have c_a_7' := zzc hb c_a_7
  have c_a_8' := zzc hb c_a_8
  have c_a_9' := zzc hb c_a_9
  have c_b_7' := zzc hb c_b_7
  have c_b_8' := zzc hb c_b_8
  have c_b_9' := zzc hb c_b_9
  have c_a_10' := zzc hb c_a_10
  have c_a_11' := zzc hb c_a_11
  have c_a_12' := zzc hb c_a_12
  have c_b_10' := zzc hb c_b_10
  have c_b_11' := zzc hb c_b_11
  have c_b_12' := zzc hb c_b_12
  have c_a_13' := zzc hb c_a_13
  have c_a_14' := zzc hb c_a_14
  have c_a_15' := zzc hb c_a_15
  have c_b_13' := zzc hb c_b_13
  have c_b_14' := zzc hb c_b_14
  have c_b_15' := zzc hb c_b_15
  show wpList _ _ _ _ _ _
  simp only [Grow.dstOf, zz1, zz2, zz3, zz4, Act.put, zz5, zz6, zz7]
  go_wp2
  exact ⟨rfl, Below.refl _ _, rfl⟩
 case o4a =>
  intro w' hb v1 hv1 v2 hv2
  obtain rfl : v1 = _ := hv1
  obtain rfl : v2 = _ := hv2
  show wpList _ _ _ _ _ _
  simp only [Grow.dstOf, zz1, zz2, zz3, zz4, Act.put, zz5, zz6, zz7]
  go_wp2
  exact ⟨rfl, Below.refl _ _, rfl⟩
 case o9a =>
  intro w' hb v1 hv1 v2 hv2
  obtain rfl : v1 = _ := hv1
  obtain rfl : v2 = _ := hv2
  show wpList _ _ _ _ _ _
  simp only [Grow.dstOf, zz1, zz2, zz3, zz4, Act.put, zz5, zz6, zz7]
  go_wp2_with fail
  refine (xplus_sm p.x q.x r.x HP.out.1 _ _ w' (HXa.out.x.ext hb) (HXb.out.x.ext hb) HSP.out.x HSQ.out.x).mono ?_
  rintro e wz ⟨vz, rfl, hxz, hbz⟩
  go_wp2
  exact ⟨hxz, hbz, rfl⟩
 case o14a =>
  intro w' hb v1 hv1 v2 hv2
  obtain rfl : v1 = _ := hv1
  obtain rfl : v2 = _ := hv2
  show wpList _ _ _ _ _ _
  simp only [Grow.dstOf, zz1, zz2, zz3, zz4, Act.put, zz5, zz6, zz7]
  go_wp2_with fail
  refine (xplus_sm p.y q.y r.y HP.out.2.1 _ _ w' (HXa.out.y.ext hb) (HXb.out.y.ext hb) HSP.out.y HSQ.out.y).mono ?_
  rintro e wz ⟨vz, rfl, hxz, hbz⟩
  go_wp2
  exact ⟨hxz, hbz, rfl⟩
 case o19a =>
  intro w' hb v1 hv1 v2 hv2
  obtain rfl : v1 = _ := hv1
  obtain rfl : v2 = _ := hv2
  show wpList _ _ _ _ _ _
  simp only [Grow.dstOf, zz1, zz2, zz3, zz4, Act.put, zz5, zz6, zz7]
  go_wp2_with fail
  refine (xplus_sm p.xx q.xx r.xx HP.out.2.2.1 _ _ w' (HXa.out.xx.ext hb) (HXb.out.xx.ext hb) HSP.out.xx HSQ.out.xx).mono ?_
  rintro e wz ⟨vz, rfl, hxz, hbz⟩
  go_wp2
  exact ⟨hxz, hbz, rfl⟩
 case o24a =>
  intro w' hb v1 hv1 v2 hv2
  obtain rfl : v1 = _ := hv1
  obtain rfl : v2 = _ := hv2
  show wpList _ _ _ _ _ _
  simp only [Grow.dstOf, zz1, zz2, zz3, zz4, Act.put, zz5, zz6, zz7]
  go_wp2_with fail
  refine (xplus_sm p.yy q.yy r.yy HP.out.2.2.2.1 _ _ w' (HXa.out.yy.ext hb) (HXb.out.yy.ext hb) HSP.out.yy HSQ.out.yy).mono ?_
  rintro e wz ⟨vz, rfl, hxz, hbz⟩
  go_wp2
  exact ⟨hxz, hbz, rfl⟩
 case o29a =>
  intro w' hb v1 hv1 v2 hv2
  obtain rfl : v1 = _ := hv1
  obtain rfl : v2 = _ := hv2
  show wpList _ _ _ _ _ _
  simp only [Grow.dstOf, zz1, zz2, zz3, zz4, Act.put, zz5, zz6, zz7]
  go_wp2_with fail
  refine (xplus_sm p.xy q.xy r.xy HP.out.2.2.2.2 _ _ w' (HXa.out.xy.ext hb) (HXb.out.xy.ext hb) HSP.out.xy HSQ.out.xy).mono ?_
  rintro e wz ⟨vz, rfl, hxz, hbz⟩
  go_wp2
  exact ⟨hxz, hbz, rfl⟩
 case o30a =>
  intro w' hb v1 hv1 v2 hv2 v3 hv3 v4 hv4 v5 hv5 v6 hv6
  obtain rfl : v1 = _ := hv1
  have hv2' : XR w' v2 r.x := hv2
  clear hv2
  obtain ⟨t0, rfl, hx0⟩ := hv2'.y3
  have hv3' : XR w' v3 r.y := hv3
  clear hv3
  obtain ⟨t1, rfl, hx1⟩ := hv3'.y3
  have hv4' : XR w' v4 r.xx := hv4
  clear hv4
  obtain ⟨t2, rfl, hx2⟩ := hv4'.y3
  have hv5' : XR w' v5 r.yy := hv5
  clear hv5
  obtain ⟨t3, rfl, hx3⟩ := hv5'.y3
  have hv6' : XR w' v6 r.xy := hv6
  clear hv6
  obtain ⟨t4, rfl, hx4⟩ := hv6'.y3
  show wpList _ _ _ _ _ _
  simp only [Grow.dstOf, zz1, zz2, zz3, zz4, Act.put, zz5, zz6, zz7]
  go_wp2
  exact ⟨⟨⟨t0, t1, t2, t3, t4⟩, rfl, ⟨hx0, hx1, hx2, hx3, hx4⟩⟩, Below.refl _ _, rfl⟩
 intro w2' hbz u0 hu0 u1 hu1 u2 hu2 u3 hu3 u4 hu4 u5 hu5 u6 hu6 u7 hu7 u8 hu8 u9 hu9 u10 hu10 u11 hu11 u12 hu12 u13 hu13 u14 hu14 u15 hu15 u16 hu16 u17 hu17 u18 hu18 u19 hu19 u20 hu20 u21 hu21 u22 hu22 u23 hu23 u24 hu24 u25 hu25 u26 hu26 u27 hu27 u28 hu28 u29 hu29 u30 hu30
 clear hu0 hu1 hu2 hu3 hu4 hu5 hu6 hu7 hu8 hu9 hu10 hu11 hu12 hu13 hu14 hu15 hu16 hu17 hu18 hu19 hu20 hu21 hu22 hu23 hu24 hu25 hu26 hu27 hu28 hu29
 replace HR_a := Lib.hid (HR_a.out.ext hbz)
 replace HR_b := Lib.hid (HR_b.out.ext hbz)
 replace HR_o := Lib.hid (HR_o.out.ext hbz)
 replace HXa := Lib.hid (HXa.out.ext hbz)
 replace HXb := Lib.hid (HXb.out.ext hbz)
 replace HW := Lib.hid (ext_trans HW.out hbz)
 clear c_a_0 c_a_1 c_a_2 c_a_3 c_a_4 c_a_5 c_a_6 c_a_7 c_a_8 c_a_9 c_a_10 c_a_11 c_a_12 c_a_13 c_a_14 c_a_15 c_b_0 c_b_1 c_b_2 c_b_3 c_b_4 c_b_5 c_b_6 c_b_7 c_b_8 c_b_9 c_b_10 c_b_11 c_b_12 c_b_13 c_b_14 c_b_15
 clear hbz
 have h30 : ∃ t : Y5, u30 = .agg (smA s t) ∧ SX w2' t r := hu30
 clear hu30
 obtain ⟨t9, rfl, hx9⟩ := h30
 have HX9 : Hid (SX w2' t9 r) := Lib.hid (hx9)
 clear hx9
 show wpList _ _ _ _ _ _
 simp only [Act.put, zz5, zz6, zz7]
 have hsz : (smA (s) t9).size = 16 := rfl
 have hsc := store_cells (P := Tryz.prog) (ty := 110) (A := (smA (s) t9)) HR_o.out (sm_info _ _) rfl (sm_all _ _)
 go_wp2
 clear hsc hsz
 obtain ⟨w3', hX⟩ : ∃ Z9, Z9 = w2'.setRow (w.heap.size + 2) (smA (s) t9) := ⟨_, rfl⟩
 rw [← hX]
 have n_o : Hid (RH w3' (w.heap.size + 2) (smA (s) t9) 110) := by rw [hX]; exact Lib.hid (HR_o.out.row _)
 have n_a : Hid (RH w3' w.heap.size (smA (n) t) 110) := by rw [hX]; exact Lib.hid (HR_a.out.row_other (show w.heap.size ≠ (w.heap.size + 2) by omega) _)
 have n_b : Hid (RH w3' (w.heap.size + 1) (smA (k) u) 110) := by rw [hX]; exact Lib.hid (HR_b.out.row_other (show (w.heap.size + 1) ≠ (w.heap.size + 2) by omega) _)
 have HK_ : ∀ p : Addr, p.block ≠ (w.heap.size + 2) → w3'.cell? p = w2'.cell? p := fun p hp => by rw [hX]; exact cell_setRow_other _ _ _ p hp
 have n_HXa : Hid (SX w3' t p) := Lib.hid (HXa.out.far HR_o.out.box (sm_nw _ _) HK_)
 have n_HXb : Hid (SX w3' u q) := Lib.hid (HXb.out.far HR_o.out.box (sm_nw _ _) HK_)
 have n_HX9 : Hid (SX w3' t9 r) := Lib.hid (HX9.out.far HR_o.out.box (sm_nw _ _) HK_)
 have nW : Hid (Below w.heap.size w w3') := by rw [hX]; exact Lib.hid (below_setRow HW.out (show w.heap.size ≤ (w.heap.size + 2) by omega) _)
 clear hX HK_ HW HR_a HR_b HR_o HXa HXb HX9
 have HR_a := n_a; clear n_a
 have HR_b := n_b; clear n_b
 have HR_o := n_o; clear n_o
 have HXa := n_HXa; clear n_HXa
 have HXb := n_HXb; clear n_HXb
 have HX9 := n_HX9; clear n_HX9
 have HW := nW; clear nW
 exact bodyPost_ret (v := .agg (smA (s) t9)) (results_cell_row rfl _ _ _ _ _ _ _ rfl HR_o.out Tryz.underlying110 rfl (sm_info _ _)) rfl ⟨_, rfl, HX9.out, HW.out⟩
end Nm
end Go.Proofs.YtilolnjbpokdnaaGreatDoor
