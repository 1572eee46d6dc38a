/- What a region that draws its order holds on to, where it ends in a store into a block of the call's own. No program stands in it. Rows: blocks of which all cells are known; a whole row read, and written. No program stands in it. allDigits, whole, isPre, within of package value. Comparisons of Go's library: cmp.Compare at ints and strings, strings.Compare, cmp.Or at two ints. strings.TrimLeft at one zero, cmp.Or at three ints, comparePre, slices.CompareFunc by comparePre. Rows and slices of texts, as the walks carry them (VrH without versions). (Spl without versions) Texts split and joined; numerals written and read: the library's contracts at the seat, in plain words. -/
import Derived.Test.YteaaibpanocgaaaDoorMt00
import Derived.Deep.RegionHeld3
import Derived.Deep.WholeRow
import Derived.Laws.CopyOwn
import Derived.Test.YteaaibpanocgaaaDoorProg
import Derived.Lib.Bytealg
import Derived.Test.YteaaibpanocgaaaDoorShelf
import Derived.Test.YteaaibpanocgaaaDoorMt01
import Derived.Lib.SmallJoins
import Derived.Lib.AppendIntMem
namespace Go.Proofs.YteaaibpanocgaaaDoor
open Go.RowKit
theorem ext_alloc (w : World) (o : Obj) : Below w.heap.size w (w.alloc o) := (Below.refl _ _).alloc (Nat.le_refl _) _
/-- A block that may be written. -/
def Fre (W : World) (b : Nat) : Prop := ∀ j, W.frozen? ⟨b, j, none⟩ = false
theorem Fre.ext {W W' : World} {b : Nat} {A : Array Value} (h : Fre W b) (hA : Box W b A) (hb : Below W.heap.size W W') : Fre W' b :=
  fun j => (hb.frozen (p := ⟨b, j, none⟩) hA.1).trans (h j)
theorem Fre.new (w : World) (A : Array Value) (t : TypeId) : Fre (w.alloc (.cells A t)) w.heap.size := fun j => by simp
/-- held: below B the world is W's, and two blocks read as they did -/
abbrev S2R (W : World) (B : Nat) (b1 : Nat) (A1 : Array Value) (b2 : Nat) (A2 : Array Value) (w' : World) : Prop :=
  Below B W w' ∧ (∀ j, w'.cell? ⟨b1, j, none⟩ = A1[j]?) ∧ (∀ j, w'.cell? ⟨b2, j, none⟩ = A2[j]?)
theorem S2R.ext {W w1 w2 : World} {B b1 : Nat} {A1 : Array Value} {b2 : Nat} {A2 : Array Value} (hb : Below w1.heap.size w1 w2) (h : S2R W B b1 A1 b2 A2 w1) (hB : B ≤ W.heap.size) (h1 : Box W b1 A1) (h2 : Box W b2 A2) : S2R W B b1 A1 b2 A2 w2 :=
  ⟨h.1.trans (hb.mono (Nat.le_trans hB h.1.size)), fun j => (hb.cell (p := ⟨b1, j, none⟩) (Nat.lt_of_lt_of_le h1.1 h.1.size)).trans (h.2.1 j), fun j => (hb.cell (p := ⟨b2, j, none⟩) (Nat.lt_of_lt_of_le h2.1 h.1.size)).trans (h.2.2 j)⟩
theorem S2R.set {W w1 : World} {B b1 : Nat} {A1 : Array Value} {b2 : Nat} {A2 : Array Value} {p : Addr} {v : Value} (h : S2R W B b1 A1 b2 A2 w1) (hp : B ≤ p.block) (h1 : b1 < B) (h2 : b2 < B) : S2R W B b1 A1 b2 A2 (w1.setCell p v) := by
  have hb : Below B w1 (w1.setCell p v) := (Below.refl _ _).setCell hp v
  exact ⟨h.1.trans hb, fun j => (hb.cell (p := ⟨b1, j, none⟩) h1).trans (h.2.1 j), fun j => (hb.cell (p := ⟨b2, j, none⟩) h2).trans (h.2.2 j)⟩

/-- The cells of a list of structs of sz cells each. -/
theorem flat_get {α : Type} {f : α → List Value} {sz : Nat} (hs : ∀ x, (f x).length = sz) : ∀ (l : List α) (k : Nat) (x : α), l[k]? = some x → ∀ j u, (f x)[j]? = some u → (l.flatMap f)[k * sz + j]? = some u
  | [], _, _, h, _, _, _ => by simp at h
  | y :: l, 0, x, h, j, u, hu => by
    obtain rfl : y = x := by simpa using h
    rw [List.flatMap_cons, Nat.zero_mul, Nat.zero_add, List.getElem?_append_left (List.getElem?_eq_some_iff.1 hu).1]; exact hu
  | y :: l, k + 1, x, h, j, u, hu => by
    have ih := flat_get hs l k x (by simpa using h) j u hu
    have e : (k + 1) * sz + j = (f y).length + (k * sz + j) := by rw [hs, Nat.add_mul]; omega
    rw [List.flatMap_cons, e, List.getElem?_append_right (by omega), ← ih]
    congr 1; omega
/-- An element of a slice of structs: where it lies, and its cells. -/
theorem Sl.elem {w : World} {a : Option Addr} {n c k : Nat} {α : Type} {f : α → List Value} {sz : Nat} {l : List α} {x : α} (s : Sl w (.slice a n c) n (l.flatMap f)) (hs : ∀ x, (f x).length = sz) (hsz : 0 < sz) (hx : l[k]? = some x) :
    ∃ b o, a = some ⟨b, o, none⟩ ∧ ∀ j u, (f x)[j]? = some u → w.cell? ⟨b, o + k * sz + j, none⟩ = some u := by
  obtain ⟨a', cap, hv, _, _, _, h3⟩ := s
  obtain ⟨rfl, _, _⟩ : a = a' ∧ True ∧ True := by cases hv; exact ⟨rfl, trivial, trivial⟩
  have h0 : 0 < (f x).length := by rw [hs]; exact hsz
  obtain ⟨b, o, rfl, _⟩ := h3 _ _ (flat_get hs l k x hx 0 _ (List.getElem?_eq_getElem h0))
  refine ⟨b, o, rfl, fun j u hu => ?_⟩
  obtain ⟨b', o', hb, hc⟩ := h3 _ _ (flat_get hs l k x hx j u hu)
  cases hb
  rw [Nat.add_assoc]; exact hc

/-- What the call owns stays owned where nothing that is there turns. -/
theorem ownsRow_ext {w w' : World} {base e size n : Nat} {v : Value} {xs : List Value} (h : w.ownsRow base e size v n xs) (hb : Below w.heap.size w w') : w'.ownsRow base e size v n xs := by
  obtain ⟨h1, h2⟩ := h
  refine ⟨h1, ?_⟩
  rcases h2 with h2 | ⟨g, cap, cur, hv, hbg, hg, h3⟩
  · exact .inl h2
  · refine .inr ⟨g, cap, cur, hv, hbg, ?_, h3⟩
    rw [hb.block g (Array.getElem?_eq_some_iff.1 hg).1]; exact hg
/-- A slice over a new block. -/
theorem Sl.new (w : World) (A : Array Value) (t : TypeId) (n cap : Nat) (h : n ≤ cap) (hm : cap ≤ maxLen) : Sl (w.alloc (.cells A t)) (.slice (some ⟨w.heap.size, 0, none⟩) n cap) n A.toList :=
  ⟨_, _, rfl, h, hm, (fun h => by cases h), fun i x hx => ⟨_, _, rfl, by simpa using hx⟩⟩

theorem S2R.grown {W w1 w2 : World} {B b1 : Nat} {A1 : Array Value} {b2 : Nat} {A2 : Array Value} {row : Option Nat} (hg : w1.grownBy w2 row) (h : S2R W B b1 A1 b2 A2 w1) (hB : B ≤ W.heap.size) (h1 : Box W b1 A1) (h2 : Box W b2 A2)
    (hr : ∀ k, row = some k → B ≤ k ∧ k ≠ b1 ∧ k ≠ b2) : S2R W B b1 A1 b2 A2 w2 := by
  have l1 := Nat.lt_of_lt_of_le h1.1 h.1.size
  have l2 := Nat.lt_of_lt_of_le h2.1 h.1.size
  refine ⟨h.1.grown hg (Nat.le_trans hB h.1.size) (fun k e => (hr k e).1), fun j => ?_, fun j => ?_⟩
  · rw [World.cell?_of_block (w := w1) (hg.block b1 l1 (fun e => (hr b1 e.symm).2.1 rfl))]; exact h.2.1 j
  · rw [World.cell?_of_block (w := w1) (hg.block b2 l2 (fun e => (hr b2 e.symm).2.2 rfl))]; exact h.2.2 j
end Go.Proofs.YteaaibpanocgaaaDoor
namespace Go.Proofs.YteaaibpanocgaaaDoor
open Go.RowKit
namespace Nt
/-- the block b is a row of cells A -/
def RH (w : World) (b : Nat) (A : Array Value) (t : TypeId) : Prop := w.heap[b]? = some (.cells A t (0, 0))
theorem RH.lt {w : World} {b : Nat} {A : Array Value} {t : TypeId} (h : RH w b A t) : b < w.heap.size := (Array.getElem?_eq_some_iff.1 h).1
theorem RH.ext {w w' : World} {b : Nat} {A : Array Value} {t : TypeId} (h : RH w b A t) (hb : Below w.heap.size w w') : RH w' b A t := by
  unfold RH; rw [hb.block b h.lt]; exact h
theorem RH.cell {w : World} {b : Nat} {A : Array Value} {t : TypeId} (h : RH w b A t) (j : Nat) : w.cell? ⟨b, j, none⟩ = A[j]? := cell_of_row w b j A t _ h
theorem RH.fre {w : World} {b : Nat} {A : Array Value} {t : TypeId} (h : RH w b A t) (j : Nat) : w.frozen? ⟨b, j, none⟩ = false := by
  unfold RH at h
  simp [World.frozen?, h]
theorem RH.new (w : World) (A : Array Value) (t : TypeId) : RH (w.alloc (.cells A t)) w.heap.size A t := heap_alloc_last w _
theorem RH.row {w : World} {b : Nat} {A : Array Value} {t : TypeId} (h : RH w b A t) (A' : Array Value) : RH (w.setRow b A') b A' t := setRow_heap w b A A' t _ h
theorem RH.set {w : World} {b : Nat} {A : Array Value} {t : TypeId} (h : RH w b A t) (j : Nat) (v : Value) : RH (w.setCell ⟨b, j, none⟩ v) b (A.setIfInBounds j v) t := by
  rw [setCell_eq_setRow w b j A t _ v h]; exact h.row _
theorem RH.set_other {w : World} {b : Nat} {A : Array Value} {t : TypeId} (h : RH w b A t) {p : Addr} (hne : b ≠ p.block) (v : Value) : RH (w.setCell p v) b A t := by
  unfold RH World.setCell
  simp only [Array.getElem?_modify]
  rw [if_neg (fun e => hne e.symm)]; exact h
theorem RH.other {w : World} {b : Nat} {A : Array Value} {t : TypeId} (h : RH w b A t) {p : Addr} (hne : b ≠ p.block) (v : Value) : RH (w.setCell p v) b A t := h.set_other hne v
theorem RH.box {w : World} {b : Nat} {A : Array Value} {t : TypeId} (h : RH w b A t) : Box w b A := ⟨h.lt, fun j => h.cell j⟩
end Nt
open Nt (RH RH.cell RH.other)
theorem zzo {w : World} {b d j : Nat} {A : Array Value} {t : TypeId} {v : Value} (h : RH w b A t) (hne : b ≠ d) : RH (w.setCell ⟨d, j, none⟩ v) b A t := h.other hne v
theorem zzw {w w' : World} {n b j : Nat} {v : Value} (h : Below n w w') (hn : n ≤ b) : Below n w (w'.setCell ⟨b, j, none⟩ v) := h.setCell hn v
end Go.Proofs.YteaaibpanocgaaaDoor
namespace Go.Proofs.YteaaibpanocgaaaDoor
open Go.RowKit
namespace Dg
theorem ret_bool {a b : Bool} (h : a = b) : Ending.returned (.bool a) = .returned (.bool b) := by rw [h]
theorem all_snoc (p : UInt8 → Bool) (s : ByteArray) (k : Nat) (hk : k < s.size) (h : (s.data.toList.take k).all p = true) (hp : p s[k] = true) : (s.data.toList.take (k + 1)).all p = true := by
  rw [take_snoc s k hk, List.all_append, h]; simp [hp]
theorem all_not (p : UInt8 → Bool) (s : ByteArray) (k : Nat) (hk : k < s.size) (hp : p s[k] = false) : s.data.toList.all p = false := by
  rw [List.all_eq_false]
  exact ⟨s[k], by rw [show s[k] = s.data.toList[k]'(by simpa using hk) from rfl]; exact List.getElem_mem _, by simp [hp]⟩
theorem all_end (p : UInt8 → Bool) (s : ByteArray) (k : Nat) (hk : ¬ k < s.size) (h : (s.data.toList.take k).all p = true) : s.data.toList.all p = true := by
  rwa [List.take_of_length_le (by simp; omega)] at h
end Dg
end Go.Proofs.YteaaibpanocgaaaDoor
namespace Go.Proofs.YteaaibpanocgaaaDoor
open Go.RowKit

def cmpS (a b : ByteArray) : Int := Lib.compareBytes a.data.toList b.data.toList

/-- '<' on the bytes of two strings, as the model has it, by compareBytes -/
theorem less_iff : ∀ (a b : List UInt8), Op.bytesLess a b = decide (Lib.compareBytes a b < 0)
  | [], [] => by simp [Op.bytesLess, Lib.compareBytes]
  | [], _ :: _ => by simp [Op.bytesLess, Lib.compareBytes]
  | _ :: _, [] => by simp [Op.bytesLess, Lib.compareBytes]
  | x :: a, y :: b => by
    have ih := less_iff a b
    simp only [Op.bytesLess, Lib.compareBytes]
    by_cases h1 : x < y
    · simp [h1]
    · by_cases h2 : y < x
      · have : (x == y) = false := by
          rw [beq_eq_false_iff_ne]; intro e; subst e; exact h1 h2
        simp [h1, h2, this]
      · have : x = y := UInt8.le_antisymm (UInt8.not_lt.1 h2) (UInt8.not_lt.1 h1)
        subst this
        simp [h1, ih]
theorem compare_self : ∀ a : List UInt8, Lib.compareBytes a a = 0
  | [] => rfl
  | x :: a => by simp [Lib.compareBytes, UInt8.lt_irrefl, compare_self a]
theorem compare_zero : ∀ {a b : List UInt8}, Lib.compareBytes a b = 0 → a = b
  | [], [], _ => rfl
  | [], _ :: _, h => by simp [Lib.compareBytes] at h
  | _ :: _, [], h => by simp [Lib.compareBytes] at h
  | x :: a, y :: b, h => by
    simp only [Lib.compareBytes] at h
    by_cases h1 : x < y
    · simp [h1] at h
    · by_cases h2 : y < x
      · simp [h1, h2] at h
      · have : x = y := UInt8.le_antisymm (UInt8.not_lt.1 h2) (UInt8.not_lt.1 h1)
        subst this
        simp [h1] at h
        rw [compare_zero h]
theorem compare_anti : ∀ (a b : List UInt8), Lib.compareBytes b a = - Lib.compareBytes a b
  | [], [] => rfl
  | [], _ :: _ => rfl
  | _ :: _, [] => rfl
  | x :: a, y :: b => by
    have ih := compare_anti a b
    simp only [Lib.compareBytes]
    by_cases h1 : x < y
    · have h2 : ¬ y < x := fun h => UInt8.lt_irrefl _ (UInt8.lt_trans h1 h)
      simp [h1, h2]
    · by_cases h2 : y < x
      · simp [h1, h2]
      · simp [h1, h2, ih]
theorem compare_tri : ∀ (a b : List UInt8), Lib.compareBytes a b = -1 ∨ Lib.compareBytes a b = 0 ∨ Lib.compareBytes a b = 1
  | [], [] => .inr (.inl rfl)
  | [], _ :: _ => .inl rfl
  | _ :: _, [] => .inr (.inr rfl)
  | x :: a, y :: b => by
    have ih := compare_tri a b
    simp only [Lib.compareBytes]
    by_cases h1 : x < y
    · simp [h1]
    · by_cases h2 : y < x
      · simp [h1, h2]
      · simpa [h1, h2] using ih
theorem cmpS_anti (a b : ByteArray) : cmpS b a = - cmpS a b := compare_anti _ _
theorem cmpS_tri (a b : ByteArray) : cmpS a b = -1 ∨ cmpS a b = 0 ∨ cmpS a b = 1 := compare_tri _ _

theorem cmpS_lt {a b : ByteArray} (h : Op.bytesLess a.toList b.toList = true) : cmpS a b = -1 := by
  rw [ByteArray.toList_eq, ByteArray.toList_eq, less_iff] at h
  have := cmpS_tri a b
  unfold cmpS at *
  simp at h; omega
theorem cmpS_eq {a b : ByteArray} (h : (!a.toList == b.toList) = false) : cmpS a b = 0 := by
  rw [ByteArray.toList_eq, ByteArray.toList_eq] at h
  have e : a.data.toList = b.data.toList := by simpa using h
  unfold cmpS; rw [e]; exact compare_self _
theorem cmpS_gt {a b : ByteArray} (h : Op.bytesLess a.toList b.toList = false) (k : (!a.toList == b.toList) = true) : cmpS a b = 1 := by
  rw [ByteArray.toList_eq, ByteArray.toList_eq] at h k
  rw [less_iff] at h
  have := cmpS_tri a b
  have hne : cmpS a b ≠ 0 := fun e => by
    have := compare_zero e
    rw [this] at k; simp at k
  unfold cmpS at *
  simp at h; omega

end Go.Proofs.YteaaibpanocgaaaDoor
namespace Go.Proofs.YteaaibpanocgaaaDoor
open Go.RowKit
def strs (l : List ByteArray) : List Value := l.map Value.string
theorem strs_get {l : List ByteArray} {k : Nat} (h : k < l.length) : (strs l)[k]? = some (.string l[k]) := by simp [strs, h]
theorem Sl.addr {w : World} {a : Option Addr} {n c : Nat} {cs : List Value} (h : Sl w (.slice a n c) n cs) {k : Nat} {x : Value} (hk : cs[k]? = some x) : ∃ b o, a = some ⟨b, o, none⟩ ∧ w.cell? ⟨b, o + k, none⟩ = some x := by
  obtain ⟨a', cap, hv, _, _, _, h3⟩ := h
  cases hv
  exact h3 _ _ hk
end Go.Proofs.YteaaibpanocgaaaDoor
namespace Go.Proofs.YteaaibpanocgaaaDoor
open Go.RowKit
namespace Tx
open _root_.Go.Proofs.YteaaibpanocgaaaDoor.Nt (RH RH.cell RH.box RH.lt RH.new RH.ext RH.fre RH.set RH.other)
theorem cs_vr {w : World} {b o : Nat} {v : Value} {p : Addr} (hp : p.block ≠ b) : (w.setCell ⟨b, o, none⟩ v).cell? p = w.cell? p := World.cell?_setCell_other _ _ _ _ (fun e => hp (by rw [← e]))
theorem wp_vr1 {P : Program} {c : Code} {Q : Exit → Act → World → Prop} {a : Act} {w : World} {A : Array Value} {t : TypeId}
    (h : ∀ W, Below w.heap.size w W → RH W w.heap.size A t → c.wp P Q a W) : c.wp P Q a (w.alloc (.cells A t)) := h _ (ext_alloc _ _) (RH.new _ _ _)
def isS : Value → Bool
  | .string _ => true
  | _ => false
def NoS (A : Array Value) : Prop := ∀ (j : Nat) (u : Value), A[j]? = some u → isS u = false
/-- a slice that reads as the texts l -/
def SlS (w : World) (a : Option Addr) (l : List ByteArray) (c : Nat) : Prop := Sl w (.slice a l.length c) l.length (strs l)
theorem SlS.ext {w w' : World} {a : Option Addr} {l : List ByteArray} {c : Nat} (h : SlS w a l c) (hb : Below w.heap.size w w') : SlS w' a l c := Sl.ext h hb
theorem SlS.far {w w' : World} {b : Nat} {A : Array Value} {a : Option Addr} {l : List ByteArray} {c : Nat} (h : SlS w a l c) (hA : Box w b A) (hn : NoS A) (hk : ∀ p : Addr, p.block ≠ b → w'.cell? p = w.cell? p) : SlS w' a l c := by
  obtain ⟨a', cap, hv, h1, h2, h0, h3⟩ := h
  refine ⟨a', cap, hv, h1, h2, h0, fun i x hx => ?_⟩
  obtain ⟨b', o, ha, hc⟩ := h3 i x hx
  refine ⟨b', o, ha, ?_⟩
  rw [hk _ (fun e => ?_)]
  · exact hc
  · have e' : b' = b := e
    subst e'
    rw [hA.2] at hc
    have h4 := hn _ _ hc
    simp only [strs, List.getElem?_map] at hx
    cases hl : l[i]? with
    | none => rw [hl] at hx; cases hx
    | some s => rw [hl] at hx; injection hx with hx; subst hx; cases h4
theorem SlS.at {w : World} {a : Option Addr} {l : List ByteArray} {c k : Nat} (h : SlS w a l c) (hk : k < l.length) : ∃ b o, a = some ⟨b, o, none⟩ ∧ w.cell? ⟨b, o + k, none⟩ = some (.string l[k]) := Sl.addr h (strs_get hk)
end Tx
end Go.Proofs.YteaaibpanocgaaaDoor
namespace Go.Proofs.YteaaibpanocgaaaDoor
open Go.RowKit
namespace Tx
open _root_.Go.Proofs.YteaaibpanocgaaaDoor.Nm
/-- the table that strconv reads -/
def Tb (w : World) : Prop := Lib.TabIs Tryd.prog w "internal/strconv.uint64pow10" .u64 Lib.pow10Tab
theorem Tb.ext {w w' : World} (h : Tb w) (hb : Below w.heap.size w w') : Tb w' := by
  cases hg : Tryd.prog.globalNamed "internal/strconv.uint64pow10" with
  | none => unfold Tb Lib.TabIs World.var? at h; rw [hg] at h; cases h
  | some g => exact Joins.tab_stays hg h hb (Nat.le_refl _)
/-- the library's own bound holds some number -/
def Ml (w : World) : Prop := ∃ m : Int, w.cell? ⟨0, 0, none⟩ = some (.int .i64 m)
theorem Ml.ext {w w' : World} (h : Ml w) (hb : Below w.heap.size w w') : Ml w' := by
  obtain ⟨m, hm⟩ := h
  exact ⟨m, (hb.cell (World.block_lt_of_cell? _ _ hm)).trans hm⟩
def stB (l : List UInt8) : ByteArray := ⟨l.toArray⟩
theorem stB_self (s : ByteArray) : stB s.data.toList = s := by cases s; simp [stB]
theorem stB_size (l : List UInt8) : (stB l).size = l.length := by simp [stB, ByteArray.size]
theorem below_drewN' (w : World) (n : Nat) : Below w.heap.size w (w.drewN n) := below_drewN (Below.refl _ _) n
theorem split_list (s : ByteArray) (c : UInt8) : Lib.splitB ⟨#[c]⟩ 0 (Lib.countB s ⟨#[c]⟩) s = (cutL c s.data.toList).map stB := by
  rw [← split_one, List.map_map]
  conv => lhs; rw [← List.map_id (Lib.splitB ⟨#[c]⟩ 0 (Lib.countB s ⟨#[c]⟩) s)]
  exact List.map_congr_left fun x _ => (stB_self x).symm
theorem cutL_len {c : UInt8} : ∀ {l : List UInt8}, ∀ x ∈ cutL c l, x.length ≤ l.length
  | [], x, hx => by simp [cutL] at hx; simp [hx]
  | b :: r, x, hx => by
    have ih := cutL_len (c := c) (l := r)
    unfold cutL at hx
    by_cases h : b = c
    · rw [if_pos h] at hx
      rcases List.mem_cons.1 hx with rfl | hx
      · simp
      · have := ih x hx; simp; omega
    · rw [if_neg h] at hx
      cases hc : cutL c r with
      | nil => exact absurd hc (cutL_ne c r)
      | cons y z =>
        rw [hc] at hx ih
        rcases List.mem_cons.1 hx with rfl | hx
        · have := ih y (by simp); simp; omega
        · have := ih x (List.mem_cons_of_mem _ hx); simp; omega
/-- the pieces of a text, as a slice of the call's own -/
theorem split_at (s : ByteArray) (c : UInt8) (hs : s.size < 4294967281) (w : World) (hm : Ml w) : Calls Tryd.prog 33 #[.string s, .string ⟨#[c]⟩] w fun e w' => ∃ a k, e = .returned (.slice a ((cutL c s.data.toList).map stB).length k) ∧ Sl w' (.slice a ((cutL c s.data.toList).map stB).length k) ((cutL c s.data.toList).map stB).length (strs ((cutL c s.data.toList).map stB)) ∧ Below w.heap.size w w' := by
  obtain ⟨m, hm⟩ := hm
  refine (Tryd.strings_Split s ⟨#[c]⟩ m w hs hm (Nat.le_refl 1)).mono ?_
  rintro e w' ⟨rfl, rfl⟩
  have hlen := Lib.splitB_all ⟨#[c]⟩ (Nat.le_refl 1) 0 _ s rfl
  rw [split_list] at hlen ⊢
  rw [← hlen]
  refine ⟨_, _, rfl, ?_, (Below.refl _ _).alloc (Nat.le_refl _) _⟩
  have h := Sl.new w ((cutL c s.data.toList).map stB |>.map Value.string).toArray 9 ((cutL c s.data.toList).map stB).length ((cutL c s.data.toList).map stB).length (Nat.le_refl _) (by
    have := Lib.countB_le ⟨#[c]⟩ (Nat.le_refl 1) s.size s (Nat.le_refl _)
    unfold maxLen; omega)
  simpa [strs] using h
end Tx
end Go.Proofs.YteaaibpanocgaaaDoor
