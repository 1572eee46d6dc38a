/- Rows: blocks of which all cells are known; a whole row read, and written. No program stands in it. allDigits, whole, isPre, within of package value. Comparisons of Go's library: cmp.Compare at ints and strings, strings.Compare, cmp.Or at two ints. strings.TrimLeft at one zero, cmp.Or at three ints, comparePre, slices.CompareFunc by comparePre. Rows and slices of texts, as the walks carry them (VrH without versions). (Spl without versions) Texts split and joined; numerals written and read: the library's contracts at the seat, in plain words. Plain: what is read; the pieces' cells. Printed by gen_evr.py. -/
import Derived.Test.YtigjkcbpbjefaaaDoorEv00
import Derived.Deep.WholeRow
import Derived.Laws.CopyOwn
import Derived.Test.YtigjkcbpbjefaaaDoorProg
import Derived.Lib.Bytealg
import Derived.Test.YtigjkcbpbjefaaaDoorShelf
import Derived.Test.YtigjkcbpbjefaaaDoorEv01
import Derived.Lib.SmallJoins
import Derived.Lib.AppendIntMem
namespace Go.Proofs.YtigjkcbpbjefaaaDoor
open Go.RowKit
namespace Nt
/-- the block b is a row of cells A -/
def RH (w : World) (b : Nat) (A : Array Value) (t : TypeId) : Prop := w.heap[b]? = some (.cells A t (0, 0))
theorem RH.lt {w : World} {b : Nat} {A : Array Value} {t : TypeId} (h : RH w b A t) : b < w.heap.size := (Array.getElem?_eq_some_iff.1 h).1
theorem RH.ext {w w' : World} {b : Nat} {A : Array Value} {t : TypeId} (h : RH w b A t) (hb : Below w.heap.size w w') : RH w' b A t := by
  unfold RH; rw [hb.block b h.lt]; exact h
theorem RH.cell {w : World} {b : Nat} {A : Array Value} {t : TypeId} (h : RH w b A t) (j : Nat) : w.cell? ⟨b, j, none⟩ = A[j]? := cell_of_row w b j A t _ h
theorem RH.fre {w : World} {b : Nat} {A : Array Value} {t : TypeId} (h : RH w b A t) (j : Nat) : w.frozen? ⟨b, j, none⟩ = false := by
  unfold RH at h
  simp [World.frozen?, h]
theorem RH.new (w : World) (A : Array Value) (t : TypeId) : RH (w.alloc (.cells A t)) w.heap.size A t := heap_alloc_last w _
theorem RH.row {w : World} {b : Nat} {A : Array Value} {t : TypeId} (h : RH w b A t) (A' : Array Value) : RH (w.setRow b A') b A' t := setRow_heap w b A A' t _ h
theorem RH.set {w : World} {b : Nat} {A : Array Value} {t : TypeId} (h : RH w b A t) (j : Nat) (v : Value) : RH (w.setCell ⟨b, j, none⟩ v) b (A.setIfInBounds j v) t := by
  rw [setCell_eq_setRow w b j A t _ v h]; exact h.row _
theorem RH.set_other {w : World} {b : Nat} {A : Array Value} {t : TypeId} (h : RH w b A t) {p : Addr} (hne : b ≠ p.block) (v : Value) : RH (w.setCell p v) b A t := by
  unfold RH World.setCell
  simp only [Array.getElem?_modify]
  rw [if_neg (fun e => hne e.symm)]; exact h
theorem RH.other {w : World} {b : Nat} {A : Array Value} {t : TypeId} (h : RH w b A t) {p : Addr} (hne : b ≠ p.block) (v : Value) : RH (w.setCell p v) b A t := h.set_other hne v
theorem RH.box {w : World} {b : Nat} {A : Array Value} {t : TypeId} (h : RH w b A t) : Box w b A := ⟨h.lt, fun j => h.cell j⟩
end Nt
open Nt (RH RH.cell RH.other)
theorem zzo {w : World} {b d j : Nat} {A : Array Value} {t : TypeId} {v : Value} (h : RH w b A t) (hne : b ≠ d) : RH (w.setCell ⟨d, j, none⟩ v) b A t := h.other hne v
theorem zzw {w w' : World} {n b j : Nat} {v : Value} (h : Below n w w') (hn : n ≤ b) : Below n w (w'.setCell ⟨b, j, none⟩ v) := h.setCell hn v
end Go.Proofs.YtigjkcbpbjefaaaDoor
namespace Go.Proofs.YtigjkcbpbjefaaaDoor
open Go.RowKit
namespace Dg
theorem ret_bool {a b : Bool} (h : a = b) : Ending.returned (.bool a) = .returned (.bool b) := by rw [h]
theorem all_snoc (p : UInt8 → Bool) (s : ByteArray) (k : Nat) (hk : k < s.size) (h : (s.data.toList.take k).all p = true) (hp : p s[k] = true) : (s.data.toList.take (k + 1)).all p = true := by
  rw [take_snoc s k hk, List.all_append, h]; simp [hp]
theorem all_not (p : UInt8 → Bool) (s : ByteArray) (k : Nat) (hk : k < s.size) (hp : p s[k] = false) : s.data.toList.all p = false := by
  rw [List.all_eq_false]
  exact ⟨s[k], by rw [show s[k] = s.data.toList[k]'(by simpa using hk) from rfl]; exact List.getElem_mem _, by simp [hp]⟩
theorem all_end (p : UInt8 → Bool) (s : ByteArray) (k : Nat) (hk : ¬ k < s.size) (h : (s.data.toList.take k).all p = true) : s.data.toList.all p = true := by
  rwa [List.take_of_length_le (by simp; omega)] at h
end Dg
end Go.Proofs.YtigjkcbpbjefaaaDoor
namespace Go.Proofs.YtigjkcbpbjefaaaDoor
open Go.RowKit

def cmpS (a b : ByteArray) : Int := Lib.compareBytes a.data.toList b.data.toList

/-- '<' on the bytes of two strings, as the model has it, by compareBytes -/
theorem less_iff : ∀ (a b : List UInt8), Op.bytesLess a b = decide (Lib.compareBytes a b < 0)
  | [], [] => by simp [Op.bytesLess, Lib.compareBytes]
  | [], _ :: _ => by simp [Op.bytesLess, Lib.compareBytes]
  | _ :: _, [] => by simp [Op.bytesLess, Lib.compareBytes]
  | x :: a, y :: b => by
    have ih := less_iff a b
    simp only [Op.bytesLess, Lib.compareBytes]
    by_cases h1 : x < y
    · simp [h1]
    · by_cases h2 : y < x
      · have : (x == y) = false := by
          rw [beq_eq_false_iff_ne]; intro e; subst e; exact h1 h2
        simp [h1, h2, this]
      · have : x = y := UInt8.le_antisymm (UInt8.not_lt.1 h2) (UInt8.not_lt.1 h1)
        subst this
        simp [h1, ih]
theorem compare_self : ∀ a : List UInt8, Lib.compareBytes a a = 0
  | [] => rfl
  | x :: a => by simp [Lib.compareBytes, UInt8.lt_irrefl, compare_self a]
theorem compare_zero : ∀ {a b : List UInt8}, Lib.compareBytes a b = 0 → a = b
  | [], [], _ => rfl
  | [], _ :: _, h => by simp [Lib.compareBytes] at h
  | _ :: _, [], h => by simp [Lib.compareBytes] at h
  | x :: a, y :: b, h => by
    simp only [Lib.compareBytes] at h
    by_cases h1 : x < y
    · simp [h1] at h
    · by_cases h2 : y < x
      · simp [h1, h2] at h
      · have : x = y := UInt8.le_antisymm (UInt8.not_lt.1 h2) (UInt8.not_lt.1 h1)
        subst this
        simp [h1] at h
        rw [compare_zero h]
theorem compare_tri : ∀ (a b : List UInt8), Lib.compareBytes a b = -1 ∨ Lib.compareBytes a b = 0 ∨ Lib.compareBytes a b = 1
  | [], [] => .inr (.inl rfl)
  | [], _ :: _ => .inl rfl
  | _ :: _, [] => .inr (.inr rfl)
  | x :: a, y :: b => by
    have ih := compare_tri a b
    simp only [Lib.compareBytes]
    by_cases h1 : x < y
    · simp [h1]
    · by_cases h2 : y < x
      · simp [h1, h2]
      · simpa [h1, h2] using ih
theorem bytes_ext {a b : ByteArray} (h : a.data.toList = b.data.toList) : a = b := by
  cases a with | mk a => cases b with | mk b =>
    simp only [ByteArray.mk.injEq]
    exact Array.toList_inj.1 h
theorem cmpS_tri (a b : ByteArray) : cmpS a b = -1 ∨ cmpS a b = 0 ∨ cmpS a b = 1 := compare_tri _ _

theorem cmpS_lt {a b : ByteArray} (h : Op.bytesLess a.toList b.toList = true) : cmpS a b = -1 := by
  rw [ByteArray.toList_eq, ByteArray.toList_eq, less_iff] at h
  have := cmpS_tri a b
  unfold cmpS at *
  simp at h; omega
theorem cmpS_eq {a b : ByteArray} (h : (!a.toList == b.toList) = false) : cmpS a b = 0 := by
  rw [ByteArray.toList_eq, ByteArray.toList_eq] at h
  have e : a.data.toList = b.data.toList := by simpa using h
  unfold cmpS; rw [e]; exact compare_self _
theorem cmpS_gt {a b : ByteArray} (h : Op.bytesLess a.toList b.toList = false) (k : (!a.toList == b.toList) = true) : cmpS a b = 1 := by
  rw [ByteArray.toList_eq, ByteArray.toList_eq] at h k
  rw [less_iff] at h
  have := cmpS_tri a b
  have hne : cmpS a b ≠ 0 := fun e => by
    have := compare_zero e
    rw [this] at k; simp at k
  unfold cmpS at *
  simp at h; omega

end Go.Proofs.YtigjkcbpbjefaaaDoor
namespace Go.Proofs.YtigjkcbpbjefaaaDoor
open Go.RowKit
def strs (l : List ByteArray) : List Value := l.map Value.string
theorem strs_get {l : List ByteArray} {k : Nat} (h : k < l.length) : (strs l)[k]? = some (.string l[k]) := by simp [strs, h]
theorem Sl.addr {w : World} {a : Option Addr} {n c : Nat} {cs : List Value} (h : Sl w (.slice a n c) n cs) {k : Nat} {x : Value} (hk : cs[k]? = some x) : ∃ b o, a = some ⟨b, o, none⟩ ∧ w.cell? ⟨b, o + k, none⟩ = some x := by
  obtain ⟨a', cap, hv, _, _, _, h3⟩ := h
  cases hv
  exact h3 _ _ hk
end Go.Proofs.YtigjkcbpbjefaaaDoor
namespace Go.Proofs.YtigjkcbpbjefaaaDoor
open Go.RowKit
namespace Tx
open _root_.Go.Proofs.YtigjkcbpbjefaaaDoor.Nt (RH RH.cell RH.box RH.lt RH.new RH.ext RH.fre RH.set RH.other)
theorem cs_vr {w : World} {b o : Nat} {v : Value} {p : Addr} (hp : p.block ≠ b) : (w.setCell ⟨b, o, none⟩ v).cell? p = w.cell? p := World.cell?_setCell_other _ _ _ _ (fun e => hp (by rw [← e]))
theorem wp_vr1 {P : Program} {c : Code} {Q : Exit → Act → World → Prop} {a : Act} {w : World} {A : Array Value} {t : TypeId}
    (h : ∀ W, Below w.heap.size w W → RH W w.heap.size A t → c.wp P Q a W) : c.wp P Q a (w.alloc (.cells A t)) := h _ (ext_alloc _ _) (RH.new _ _ _)
def isS : Value → Bool
  | .string _ => true
  | _ => false
def NoS (A : Array Value) : Prop := ∀ (j : Nat) (u : Value), A[j]? = some u → isS u = false
/-- a slice that reads as the texts l -/
def SlS (w : World) (a : Option Addr) (l : List ByteArray) (c : Nat) : Prop := Sl w (.slice a l.length c) l.length (strs l)
theorem SlS.ext {w w' : World} {a : Option Addr} {l : List ByteArray} {c : Nat} (h : SlS w a l c) (hb : Below w.heap.size w w') : SlS w' a l c := Sl.ext h hb
theorem SlS.far {w w' : World} {b : Nat} {A : Array Value} {a : Option Addr} {l : List ByteArray} {c : Nat} (h : SlS w a l c) (hA : Box w b A) (hn : NoS A) (hk : ∀ p : Addr, p.block ≠ b → w'.cell? p = w.cell? p) : SlS w' a l c := by
  obtain ⟨a', cap, hv, h1, h2, h0, h3⟩ := h
  refine ⟨a', cap, hv, h1, h2, h0, fun i x hx => ?_⟩
  obtain ⟨b', o, ha, hc⟩ := h3 i x hx
  refine ⟨b', o, ha, ?_⟩
  rw [hk _ (fun e => ?_)]
  · exact hc
  · have e' : b' = b := e
    subst e'
    rw [hA.2] at hc
    have h4 := hn _ _ hc
    simp only [strs, List.getElem?_map] at hx
    cases hl : l[i]? with
    | none => rw [hl] at hx; cases hx
    | some s => rw [hl] at hx; injection hx with hx; subst hx; cases h4
theorem SlS.at {w : World} {a : Option Addr} {l : List ByteArray} {c k : Nat} (h : SlS w a l c) (hk : k < l.length) : ∃ b o, a = some ⟨b, o, none⟩ ∧ w.cell? ⟨b, o + k, none⟩ = some (.string l[k]) := Sl.addr h (strs_get hk)
end Tx
end Go.Proofs.YtigjkcbpbjefaaaDoor
namespace Go.Proofs.YtigjkcbpbjefaaaDoor
open Go.RowKit
namespace Tx
open _root_.Go.Proofs.YtigjkcbpbjefaaaDoor.Nm
/-- the table that strconv reads -/
def Tb (w : World) : Prop := Lib.TabIs Tryd.prog w "internal/strconv.uint64pow10" .u64 Lib.pow10Tab
theorem Tb.ext {w w' : World} (h : Tb w) (hb : Below w.heap.size w w') : Tb w' := by
  cases hg : Tryd.prog.globalNamed "internal/strconv.uint64pow10" with
  | none => unfold Tb Lib.TabIs World.var? at h; rw [hg] at h; cases h
  | some g => exact Joins.tab_stays hg h hb (Nat.le_refl _)
/-- the library's own bound holds some number -/
def Ml (w : World) : Prop := ∃ m : Int, w.cell? ⟨1, 0, none⟩ = some (.int .i64 m)
theorem Ml.ext {w w' : World} (h : Ml w) (hb : Below w.heap.size w w') : Ml w' := by
  obtain ⟨m, hm⟩ := h
  exact ⟨m, (hb.cell (World.block_lt_of_cell? _ _ hm)).trans hm⟩
def stB (l : List UInt8) : ByteArray := ⟨l.toArray⟩
theorem stB_self (s : ByteArray) : stB s.data.toList = s := by cases s; simp [stB]
theorem stB_size (l : List UInt8) : (stB l).size = l.length := by simp [stB, ByteArray.size]
theorem split_list (s : ByteArray) (c : UInt8) : Lib.splitB ⟨#[c]⟩ 0 (Lib.countB s ⟨#[c]⟩) s = (cutL c s.data.toList).map stB := by
  rw [← split_one, List.map_map]
  conv => lhs; rw [← List.map_id (Lib.splitB ⟨#[c]⟩ 0 (Lib.countB s ⟨#[c]⟩) s)]
  exact List.map_congr_left fun x _ => (stB_self x).symm
theorem cutL_len {c : UInt8} : ∀ {l : List UInt8}, ∀ x ∈ cutL c l, x.length ≤ l.length
  | [], x, hx => by simp [cutL] at hx; simp [hx]
  | b :: r, x, hx => by
    have ih := cutL_len (c := c) (l := r)
    unfold cutL at hx
    by_cases h : b = c
    · rw [if_pos h] at hx
      rcases List.mem_cons.1 hx with rfl | hx
      · simp
      · have := ih x hx; simp; omega
    · rw [if_neg h] at hx
      cases hc : cutL c r with
      | nil => exact absurd hc (cutL_ne c r)
      | cons y z =>
        rw [hc] at hx ih
        rcases List.mem_cons.1 hx with rfl | hx
        · have := ih y (by simp); simp; omega
        · have := ih x (List.mem_cons_of_mem _ hx); simp; omega
/-- the pieces of a text, as a slice of the call's own -/
theorem split_at (s : ByteArray) (c : UInt8) (hs : s.size < 4294967281) (w : World) (hm : Ml w) : Calls Tryd.prog 22 #[.string s, .string ⟨#[c]⟩] w fun e w' => ∃ a k, e = .returned (.slice a ((cutL c s.data.toList).map stB).length k) ∧ Sl w' (.slice a ((cutL c s.data.toList).map stB).length k) ((cutL c s.data.toList).map stB).length (strs ((cutL c s.data.toList).map stB)) ∧ Below w.heap.size w w' := by
  obtain ⟨m, hm⟩ := hm
  refine (Tryd.strings_Split s ⟨#[c]⟩ m w hs hm (Nat.le_refl 1)).mono ?_
  rintro e w' ⟨rfl, rfl⟩
  have hlen := Lib.splitB_all ⟨#[c]⟩ (Nat.le_refl 1) 0 _ s rfl
  rw [split_list] at hlen ⊢
  rw [← hlen]
  refine ⟨_, _, rfl, ?_, (Below.refl _ _).alloc (Nat.le_refl _) _⟩
  have h := Sl.new w ((cutL c s.data.toList).map stB |>.map Value.string).toArray 9 ((cutL c s.data.toList).map stB).length ((cutL c s.data.toList).map stB).length (Nat.le_refl _) (by
    have := Lib.countB_le ⟨#[c]⟩ (Nat.le_refl 1) s.size s (Nat.le_refl _)
    unfold maxLen; omega)
  simpa [strs] using h
end Tx
end Go.Proofs.YtigjkcbpbjefaaaDoor
namespace Go.Proofs.YtigjkcbpbjefaaaDoor
open Go.RowKit
namespace Tx
open _root_.Go.Proofs.YtigjkcbpbjefaaaDoor.Nm
theorem zle : (⟨#[]⟩ : ByteArray).size ≤ maxLen := by decide
theorem num_get {o : Option Int} {n : Int} (h1 : o.isSome = true) (h2 : ∀ v, o = some v → v = n) : o = some n := by
 cases o with
 | none => cases h1
 | some v => rw [h2 v rfl]
theorem num_none {o : Option Int} (h : o.isSome = false) : o = none := by
 cases o with
 | none => rfl
 | some v => cases h
theorem readW_len {L : List (List UInt8)} (h4 : L.length ≠ 4) (h7 : L.length ≠ 7) : readW L = none := by
 rcases L with _ | ⟨a, _ | ⟨b, _ | ⟨c, _ | ⟨d, _ | ⟨k, _ | ⟨m, _ | ⟨z, _ | ⟨y, r⟩⟩⟩⟩⟩⟩⟩⟩
 ·rfl
 ·rfl
 ·rfl
 ·rfl
 ·exact absurd rfl h4
 ·rfl
 ·rfl
 ·exact absurd rfl h7
 ·rfl
theorem read4_no {a b c d : List UInt8} (h : wordsB a = false ∨ numO b = none ∨ numO c = none ∨ d ≠ markL) : read4 a b c d = none := by
 unfold read4
 cases hb : numO b with
 | none => rfl
 | some n =>
  cases hc : numO c with
  | none => rfl
  | some t =>
   show (if wordsB a = true ∧ d = markL then _ else none) = none
   rw [if_neg]
   rintro ⟨h1, h2⟩
   rcases h with h | h | h | h
   ·rw [h] at h1; cases h1
   ·rw [h] at hb; cases hb
   ·rw [h] at hc; cases hc
   ·exact h h2
theorem read4_yes {a b c d : List UInt8} {n t : Int} (hb : numO b = some n) (hc : numO c = some t) (ha : wordsB a = true) (hd : d = markL) : read4 a b c d = some ⟨bs a, n, 3, t, bs [], bs [], 0, 0⟩ := by
 unfold read4
 rw [hb, hc]
 exact if_pos ⟨ha, hd⟩
theorem read7_no {a b c d k m z : List UInt8} (h : wordsB a = false ∨ numO b = none ∨ numO c = none ∨ numO z = none ∨ seenB k = false ∨ wordsB m = false ∨ (d ≠ expL ∧ d ≠ outL)) : read7 a b c d k m z = none := by
 unfold read7
 cases hb : numO b with
 | none => rfl
 | some n =>
  cases hc : numO c with
  | none => rfl
  | some t =>
   cases hz : numO z with
   | none => rfl
   | some x =>
    show (if wordsB a = true ∧ seenB k = true ∧ wordsB m = true then (if d = expL then _ else if d = outL then _ else none) else none) = none
    by_cases hq : wordsB a = true ∧ seenB k = true ∧ wordsB m = true
    ·rw [if_pos hq]
     rcases h with h | h | h | h | h | h | h
     ·rw [h] at hq; exact absurd hq.1 (by decide)
     ·rw [h] at hb; cases hb
     ·rw [h] at hc; cases hc
     ·rw [h] at hz; cases hz
     ·rw [h] at hq; exact absurd hq.2.1 (by decide)
     ·rw [h] at hq; exact absurd hq.2.2 (by decide)
     ·rw [if_neg h.1, if_neg h.2]
    ·rw [if_neg hq]
theorem read7_exp {a b c k m z : List UInt8} {n t x : Int} (hb : numO b = some n) (hc : numO c = some t) (hz : numO z = some x) (ha : wordsB a = true) (hk : seenB k = true) (hm : wordsB m = true) : read7 a b c expL k m z = some ⟨bs a, n, 1, t, bs k, bs m, x, 0⟩ := by
 unfold read7
 rw [hb, hc, hz]
 show (if _ ∧ _ then (if expL = expL then _ else _) else none) = _
 rw [if_pos ⟨ha, hk, hm⟩, if_pos rfl]
theorem read7_out {a b c k m z : List UInt8} {n t x : Int} (hb : numO b = some n) (hc : numO c = some t) (hz : numO z = some x) (ha : wordsB a = true) (hk : seenB k = true) (hm : wordsB m = true) : read7 a b c outL k m z = some ⟨bs a, n, 2, t, bs k, bs m, 0, x⟩ := by
 unfold read7
 rw [hb, hc, hz]
 show (if _ ∧ _ then (if outL = expL then _ else if outL = outL then _ else _) else none) = _
 rw [if_pos ⟨ha, hk, hm⟩, if_neg (by decide), if_pos rfl]
/-- the pieces' cells -/
def Pcs (w : World) (pb po : Nat) (l : List ByteArray) : Prop := ∀ k (h : k < l.length), w.cell? ⟨pb, po + k, none⟩ = some (.string l[k])
theorem Pcs.ext {w w' : World} {pb po : Nat} {l : List ByteArray} (h : Pcs w pb po l) (hb : Below w.heap.size w w') : Pcs w' pb po l := fun k hk => (hb.cell (World.block_lt_of_cell? _ _ (h k hk))).trans (h k hk)
theorem Pcs.far {w w' : World} {pb po b : Nat} {A : Array Value} {l : List ByteArray} (h : Pcs w pb po l) (_ : Box w b A) (hn : pb ≠ b) (hk : ∀ p : Addr, p.block ≠ b → w'.cell? p = w.cell? p) : Pcs w' pb po l := fun k h9 => (hk _ hn).trans (h k h9)
theorem Pcs.lt {w : World} {pb po : Nat} {l : List ByteArray} (h : Pcs w pb po l) (hl : 0 < l.length) : pb < w.heap.size := World.block_lt_of_cell? _ _ (h 0 hl)
theorem SlS.pcs {w : World} {a : Option Addr} {l : List ByteArray} {c : Nat} (h : SlS w a l c) (hl : 0 < l.length) : ∃ pb po, a = some ⟨pb, po, none⟩ ∧ Pcs w pb po l := by
 obtain ⟨b, o, rfl, _⟩ := h.at hl
 refine ⟨b, o, rfl, fun k hk => ?_⟩
 obtain ⟨b', o', e, hc⟩ := h.at hk
 cases e
 exact hc
theorem Pcs.ne {w : World} {pb po b : Nat} {l : List ByteArray} {s k m : ByteArray} {n1 n2 n3 n4 n5 : Int} (h : Pcs w pb po l) (hl : 3 < l.length) (hA : Box w b #[.string s, .int .i64 n1, .int .i64 n2, .int .i64 n3, .string k, .string m, .int .i64 n4, .int .i64 n5]) : pb ≠ b := by
 rintro rfl
 have c0 := h 0 (by omega)
 have c1 := h 1 (by omega)
 have c2 := h 2 (by omega)
 rw [hA.2] at c0 c1 c2
 match po, c0, c1, c2 with
 | 0, _, c1, _ => cases c1
 | 1, c0, _, _ => cases c0
 | 2, c0, _, _ => cases c0
 | 3, c0, _, _ => cases c0
 | 4, _, _, c2 => cases c2
 | 5, _, c1, _ => cases c1
 | 6, c0, _, _ => cases c0
 | 7, c0, _, _ => cases c0
 | j + 8, c0, _, _ => simp at c0
/-- what reading an event's words gives -/
def RdE (l : List UInt8) (w : World) (e : Ending) (w' : World) : Prop := ∃ x b, e = .returned (.tuple #[.agg (evC x), .bool b]) ∧ x.ok ∧ ((readO l = some x ∧ b = true) ∨ (readO l = none ∧ b = false)) ∧ Below w.heap.size w w'
/-- Read's answer -/
def rdE (l : List UInt8) : Ev × Int := match readO l with
 | none => (⟨bs [], 0, 0, 0, bs [], bs [], 0, 0⟩, 10)
 | some x => if checkE x = 0 then (x, 0) else (⟨bs [], 0, 0, 0, bs [], bs [], 0, 0⟩, checkE x)
end Tx
end Go.Proofs.YtigjkcbpbjefaaaDoor
