/- Plain: logs' texts, read and written. No program stands in it. Rows: blocks of which all cells are known; a whole row read, and written. No program stands in it. allDigits, whole, isPre, within of package value. strings.TrimLeft at one zero, cmp.Or at three ints, comparePre, slices.CompareFunc by comparePre. Rows and slices of texts, as the walks carry them (VrH without versions). (Spl without versions) Texts split and joined; numerals written and read: the library's contracts at the seat, in plain words. Plain: what is read; the pieces' cells. Printed by gen_evr.py. (Spl's cut without versions) A text cut at the first byte c: the library's Cut at the seat, in plain words. Plain: exchanging, rotating and merging parts of an array. -/
import Derived.Test.YtbgbfjfboaajbaaGreatDoorEm02
import Derived.Test.YtbgbfjfboaajbaaGreatDoorEm04
import Derived.Lib.Join
import Derived.Test.YtbgbfjfboaajbaaGreatDoorEm01
import Derived.Deep.WholeRow
import Derived.Laws.CopyOwn
import Derived.Test.YtbgbfjfboaajbaaGreatDoorProg
import Derived.Test.YtbgbfjfboaajbaaGreatDoorEm00
import Derived.Test.YtbgbfjfboaajbaaGreatDoorEm03
import Derived.Test.YtbgbfjfboaajbaaGreatDoorShelf
import Derived.Lib.SmallJoins
import Derived.Lib.AppendIntMem
import Derived.Sort.LotA
import Derived.Sort.Lot0
namespace Go.Proofs.YtbgbfjfboaajbaaGreatDoor
namespace Tx
open _root_.Go.Proofs.YtbgbfjfboaajbaaGreatDoor.Nm
/-- lines behind line i: what they say, or the line that is wrong -/
def rdEs : Nat → List (List UInt8) → List Ev ⊕ Nat
  | _, [] => .inl []
  | i, [p] => if p = [] then .inl [] else .inr i
  | i, p :: q :: r => match readO p with
    | none => .inr i
    | some m => match rdEs (i + 1) (q :: r) with
      | .inl l => .inl (m :: l)
      | .inr j => .inr j
/-- events ahead of what the other lines say -/
def apE (a : List Ev) : List Ev ⊕ Nat → List Ev ⊕ Nat
  | .inl l => .inl (a ++ l)
  | .inr i => .inr i
theorem apE_nil (x : List Ev ⊕ Nat) : apE [] x = x := by cases x <;> rfl
theorem apE_more (a : List Ev) (m : Ev) (x : List Ev ⊕ Nat) : apE a (apE [m] x) = apE (a ++ [m]) x := by
  cases x with
  | inl l => show Sum.inl (a ++ ([m] ++ l)) = Sum.inl (a ++ [m] ++ l); rw [List.append_assoc]
  | inr i => rfl
theorem cut1_cutL {c : UInt8} {t l r : List UInt8} (h : cut1 c t = (l, some r)) : cutL c t = l :: cutL c r := by
  by_cases hm : c ∈ t
  · obtain ⟨x, y, rfl, hx⟩ := mem_split hm
    rw [cut1_app hx] at h
    injection h with h1 h2
    injection h2 with h2
    subst h1; subst h2
    exact cutL_app hx
  · rw [cut1_none hm] at h; injection h with _ h2; cases h2
theorem cut1_last {c : UInt8} {t l : List UInt8} (h : cut1 c t = (l, none)) : l = t ∧ cutL c t = [t] := by
  by_cases hm : c ∈ t
  · obtain ⟨x, y, rfl, hx⟩ := mem_split hm
    rw [cut1_app hx] at h; injection h with _ h2; cases h2
  · rw [cut1_none hm] at h; injection h with h1 _
    exact ⟨h1.symm, cutL_none hm⟩
theorem cut1_size {c : UInt8} {t l : List UInt8} {r : Option (List UInt8)} (h : cut1 c t = (l, r)) : l.length ≤ t.length ∧ ∀ q, r = some q → q.length < t.length := by
  by_cases hm : c ∈ t
  · obtain ⟨x, y, rfl, hx⟩ := mem_split hm
    rw [cut1_app hx] at h
    injection h with h1 h2
    subst h1; subst h2
    refine ⟨by simp, fun q hq => ?_⟩
    injection hq with hq
    subst hq
    simp; omega
  · rw [cut1_none hm] at h; injection h with h1 h2
    subst h1; subst h2
    exact ⟨Nat.le_refl _, fun q hq => by cases hq⟩
theorem rdEs_end (i : Nat) : rdEs i (cutL 10 []) = .inl [] := by
  show rdEs i [[]] = _
  unfold rdEs; rw [if_pos rfl]
theorem rdEs_last {t l : List UInt8} {i : Nat} (ht : t ≠ []) (h : cut1 10 t = (l, none)) : rdEs i (cutL 10 t) = .inr i := by
  rw [(cut1_last h).2]
  unfold rdEs; rw [if_neg ht]
theorem rdEs_bad {t l r : List UInt8} {i : Nat} (h : cut1 10 t = (l, some r)) (hm : readO l = none) : rdEs i (cutL 10 t) = .inr i := by
  rw [cut1_cutL h]
  cases hc : cutL 10 r with
  | nil => exact absurd hc (cutL_ne _ _)
  | cons q z => unfold rdEs; rw [hm]
theorem rdEs_more {t l r : List UInt8} {i : Nat} {m : Ev} (h : cut1 10 t = (l, some r)) (hm : readO l = some m) : rdEs i (cutL 10 t) = apE [m] (rdEs (i + 1) (cutL 10 r)) := by
  rw [cut1_cutL h]
  cases hc : cutL 10 r with
  | nil => exact absurd hc (cutL_ne _ _)
  | cons q z =>
    conv => lhs; unfold rdEs
    rw [hm]
    simp only
    cases rdEs (i + 1) (q :: z) <;> rfl
/-- a line, its end with it -/
def lineE (e : Ev) : List UInt8 := showE e ++ [10]
def textE (l : List Ev) : List UInt8 := l.flatMap lineE
/-- the first fault of events -/
def faultsE : List Ev → Int
  | [] => 0
  | e :: r => if checkE e = 0 then faultsE r else checkE e
theorem faults_stepE {l : List Ev} {k : Nat} {s : Ev} (h : l[k]? = some s) : faultsE (l.drop k) = if checkE s = 0 then faultsE (l.drop (k + 1)) else checkE s := by
  obtain ⟨hk, rfl⟩ := List.getElem?_eq_some_iff.1 h
  rw [List.drop_eq_getElem_cons hk]; rfl
/-- what becomes of events that were read -/
def LogL (l x : List Ev) (f : Int) : Prop :=
  if faultsE l ≠ 0 then x = [] ∧ f = faultsE l
  else (¬ NoClash l ∧ x = [] ∧ f = 13) ∨ (∃ C, Asc C ∧ (∀ e, e ∈ C ↔ e ∈ l) ∧ ((checkL C = 0 ∧ x = C ∧ f = 0) ∨ (checkL C ≠ 0 ∧ x = [] ∧ f = checkL C)))
/-- what ReadLog answers -/
def LogR (t : List UInt8) (x : List Ev) (i f : Int) : Prop :=
  if 3000000 < t.length then x = [] ∧ i = 0 ∧ f = 2
  else match rdEs 1 (cutL 10 t) with
    | .inr n => x = [] ∧ i = (n : Int) ∧ f = 10
    | .inl l => i = 0 ∧ LogL l x f
theorem clash_not {l C : List Ev} (ha : Asc C) (hm : ∀ e, e ∈ C ↔ e ∈ l) : NoClash l := fun x hx y hy h0 => asc_noClash ha x ((hm x).2 hx) y ((hm y).2 hy) h0
theorem LogL.unique {l x y : List Ev} {f g : Int} (h : LogL l x f) (k : LogL l y g) : x = y ∧ f = g := by
  unfold LogL at h k
  by_cases h0 : faultsE l ≠ 0
  · rw [if_pos h0] at h k
    exact ⟨h.1.trans k.1.symm, h.2.trans k.2.symm⟩
  · rw [if_neg h0] at h k
    rcases h with ⟨h1, h2, h3⟩ | ⟨C, h1, h2, h3⟩
    · rcases k with ⟨k1, k2, k3⟩ | ⟨D, k1, k2, k3⟩
      · exact ⟨h2.trans k2.symm, h3.trans k3.symm⟩
      · exact absurd (clash_not k1 k2) h1
    · rcases k with ⟨k1, k2, k3⟩ | ⟨D, k1, k2, k3⟩
      · exact absurd (clash_not h1 h2) k1
      · obtain rfl := asc_unique h1 k1 (fun x => (h2 x).trans (k2 x).symm)
        rcases h3 with ⟨a1, a2, a3⟩ | ⟨a1, a2, a3⟩
        · rcases k3 with ⟨b1, b2, b3⟩ | ⟨b1, b2, b3⟩
          · exact ⟨a2.trans b2.symm, a3.trans b3.symm⟩
          · exact absurd a1 b1
        · rcases k3 with ⟨b1, b2, b3⟩ | ⟨b1, b2, b3⟩
          · exact absurd b1 a1
          · exact ⟨a2.trans b2.symm, a3.trans b3.symm⟩
theorem LogR.unique {t : List UInt8} {x y : List Ev} {i j f g : Int} (h : LogR t x i f) (k : LogR t y j g) : x = y ∧ i = j ∧ f = g := by
  unfold LogR at h k
  by_cases h0 : 3000000 < t.length
  · rw [if_pos h0] at h k
    exact ⟨h.1.trans k.1.symm, h.2.1.trans k.2.1.symm, h.2.2.trans k.2.2.symm⟩
  · rw [if_neg h0] at h k
    cases hr : rdEs 1 (cutL 10 t) with
    | inr n =>
      rw [hr] at h k
      exact ⟨h.1.trans k.1.symm, h.2.1.trans k.2.1.symm, h.2.2.trans k.2.2.symm⟩
    | inl l =>
      rw [hr] at h k
      have := LogL.unique h.2 k.2
      exact ⟨this.1, h.1.trans k.1.symm, this.2⟩
theorem iteE_eight (b : Bool) (x : Int) (h : (if b = true then (8 : Int) else x) = 0) : x = 0 := by cases b <;> simp_all
theorem scanE_all : ∀ (p : Option Ev) (l : List Ev), scanFrom p l = 0 → l.Pairwise (fun a b => ordE a b < 0) ∧ (∀ q, p = some q → ∀ x ∈ l, ordE q x < 0) ∧ ∀ e ∈ l, checkE e = 0
  | _, [], _ => ⟨List.Pairwise.nil, (fun _ _ x hx => by cases hx), (fun x hx => by cases hx)⟩
  | p, e :: r, h => by
    unfold scanFrom at h
    by_cases hx : checkE e = 0
    · rw [if_neg (by simp [hx])] at h
      have h2 : scanFrom (some e) r = 0 := iteE_eight _ _ h
      obtain ⟨i1, i2, i3⟩ := scanE_all (some e) r h2
      refine ⟨List.Pairwise.cons (i2 e rfl) i1, fun q hq x hx => ?_, fun x hx' => ?_⟩
      · subst hq
        have hqe : ordE q e < 0 := by
          by_cases h3 : 0 ≤ ordE q e
          · exfalso; simp [h3] at h
          · omega
        rcases List.mem_cons.1 hx with rfl | hx
        · exact hqe
        · exact ordE_lt_trans hqe (i2 e rfl x hx)
      · rcases List.mem_cons.1 hx' with rfl | hx'
        · exact hx
        · exact i3 x hx'
    · rw [if_pos hx] at h; exact absurd h hx
theorem checkL_good {l : List Ev} (h : checkL l = 0) : l.length ≤ 20000 ∧ Asc l ∧ ∀ e ∈ l, checkE e = 0 := by
  unfold checkL at h
  by_cases h1 : 20000 < l.length
  · rw [if_pos h1] at h; cases h
  · rw [if_neg h1] at h
    by_cases h2 : scanFrom none l = 0
    · have := scanE_all none l h2
      exact ⟨by omega, this.1, this.2.2⟩
    · rw [if_pos h2] at h; exact absurd h h2
theorem textE_take {l : List Ev} {k : Nat} {m : Ev} (h : l[k]? = some m) : textE (l.take (k + 1)) = textE (l.take k) ++ lineE m := by
  obtain ⟨hk, rfl⟩ := List.getElem?_eq_some_iff.1 h
  unfold textE
  rw [List.take_succ_eq_append_getElem hk, List.flatMap_append]
  simp
theorem textE_len : ∀ {l : List Ev}, (∀ e ∈ l, RightE e) → (textE l).length ≤ l.length * 301
  | [], _ => Nat.zero_le _
  | m :: r, h => by
    have h1 := show_len (h m (by simp))
    have h2 := textE_len (l := r) (fun x hx => h x (by simp [hx]))
    show (lineE m ++ textE r).length ≤ (r.length + 1) * 301
    unfold lineE
    rw [List.length_append, List.length_append, List.length_singleton, Nat.succ_mul]
    omega
/-- Text: the text, and the fault -/
def ltF (l : List Ev) : Int := if checkL l ≠ 0 then checkL l else if 3000000 < (textE l).length then 2 else 0
def ltT (l : List Ev) : List UInt8 := if ltF l = 0 then textE l else []
end Tx
end Go.Proofs.YtbgbfjfboaajbaaGreatDoor
namespace Go.Proofs.YtbgbfjfboaajbaaGreatDoor
open Go.RowKit
namespace Nt
/-- the block b is a row of cells A -/
def RH (w : World) (b : Nat) (A : Array Value) (t : TypeId) : Prop := w.heap[b]? = some (.cells A t (0, 0))
theorem RH.lt {w : World} {b : Nat} {A : Array Value} {t : TypeId} (h : RH w b A t) : b < w.heap.size := (Array.getElem?_eq_some_iff.1 h).1
theorem RH.ext {w w' : World} {b : Nat} {A : Array Value} {t : TypeId} (h : RH w b A t) (hb : Below w.heap.size w w') : RH w' b A t := by
  unfold RH; rw [hb.block b h.lt]; exact h
theorem RH.cell {w : World} {b : Nat} {A : Array Value} {t : TypeId} (h : RH w b A t) (j : Nat) : w.cell? ⟨b, j, none⟩ = A[j]? := cell_of_row w b j A t _ h
theorem RH.fre {w : World} {b : Nat} {A : Array Value} {t : TypeId} (h : RH w b A t) (j : Nat) : w.frozen? ⟨b, j, none⟩ = false := by
  unfold RH at h
  simp [World.frozen?, h]
theorem RH.new (w : World) (A : Array Value) (t : TypeId) : RH (w.alloc (.cells A t)) w.heap.size A t := heap_alloc_last w _
theorem RH.row {w : World} {b : Nat} {A : Array Value} {t : TypeId} (h : RH w b A t) (A' : Array Value) : RH (w.setRow b A') b A' t := setRow_heap w b A A' t _ h
theorem RH.set {w : World} {b : Nat} {A : Array Value} {t : TypeId} (h : RH w b A t) (j : Nat) (v : Value) : RH (w.setCell ⟨b, j, none⟩ v) b (A.setIfInBounds j v) t := by
  rw [setCell_eq_setRow w b j A t _ v h]; exact h.row _
theorem RH.set_other {w : World} {b : Nat} {A : Array Value} {t : TypeId} (h : RH w b A t) {p : Addr} (hne : b ≠ p.block) (v : Value) : RH (w.setCell p v) b A t := by
  unfold RH World.setCell
  simp only [Array.getElem?_modify]
  rw [if_neg (fun e => hne e.symm)]; exact h
theorem RH.other {w : World} {b : Nat} {A : Array Value} {t : TypeId} (h : RH w b A t) {p : Addr} (hne : b ≠ p.block) (v : Value) : RH (w.setCell p v) b A t := h.set_other hne v
theorem RH.box {w : World} {b : Nat} {A : Array Value} {t : TypeId} (h : RH w b A t) : Box w b A := ⟨h.lt, fun j => h.cell j⟩
end Nt
open Nt (RH RH.cell RH.other)
theorem zzo {w : World} {b d j : Nat} {A : Array Value} {t : TypeId} {v : Value} (h : RH w b A t) (hne : b ≠ d) : RH (w.setCell ⟨d, j, none⟩ v) b A t := h.other hne v
theorem zzw {w w' : World} {n b j : Nat} {v : Value} (h : Below n w w') (hn : n ≤ b) : Below n w (w'.setCell ⟨b, j, none⟩ v) := h.setCell hn v
end Go.Proofs.YtbgbfjfboaajbaaGreatDoor
namespace Go.Proofs.YtbgbfjfboaajbaaGreatDoor
open Go.RowKit
namespace Dg
theorem ret_bool {a b : Bool} (h : a = b) : Ending.returned (.bool a) = .returned (.bool b) := by rw [h]
theorem all_snoc (p : UInt8 → Bool) (s : ByteArray) (k : Nat) (hk : k < s.size) (h : (s.data.toList.take k).all p = true) (hp : p s[k] = true) : (s.data.toList.take (k + 1)).all p = true := by
  rw [take_snoc s k hk, List.all_append, h]; simp [hp]
theorem all_not (p : UInt8 → Bool) (s : ByteArray) (k : Nat) (hk : k < s.size) (hp : p s[k] = false) : s.data.toList.all p = false := by
  rw [List.all_eq_false]
  exact ⟨s[k], by rw [show s[k] = s.data.toList[k]'(by simpa using hk) from rfl]; exact List.getElem_mem _, by simp [hp]⟩
theorem all_end (p : UInt8 → Bool) (s : ByteArray) (k : Nat) (hk : ¬ k < s.size) (h : (s.data.toList.take k).all p = true) : s.data.toList.all p = true := by
  rwa [List.take_of_length_le (by simp; omega)] at h
end Dg
end Go.Proofs.YtbgbfjfboaajbaaGreatDoor
namespace Go.Proofs.YtbgbfjfboaajbaaGreatDoor
open Go.RowKit
def strs (l : List ByteArray) : List Value := l.map Value.string
theorem strs_get {l : List ByteArray} {k : Nat} (h : k < l.length) : (strs l)[k]? = some (.string l[k]) := by simp [strs, h]
theorem Sl.addr {w : World} {a : Option Addr} {n c : Nat} {cs : List Value} (h : Sl w (.slice a n c) n cs) {k : Nat} {x : Value} (hk : cs[k]? = some x) : ∃ b o, a = some ⟨b, o, none⟩ ∧ w.cell? ⟨b, o + k, none⟩ = some x := by
  obtain ⟨a', cap, hv, _, _, _, h3⟩ := h
  cases hv
  exact h3 _ _ hk
end Go.Proofs.YtbgbfjfboaajbaaGreatDoor
namespace Go.Proofs.YtbgbfjfboaajbaaGreatDoor
open Go.RowKit
namespace Tx
open _root_.Go.Proofs.YtbgbfjfboaajbaaGreatDoor.Nt (RH RH.cell RH.box RH.lt RH.new RH.ext RH.fre RH.set RH.other)
theorem cs_vr {w : World} {b o : Nat} {v : Value} {p : Addr} (hp : p.block ≠ b) : (w.setCell ⟨b, o, none⟩ v).cell? p = w.cell? p := World.cell?_setCell_other _ _ _ _ (fun e => hp (by rw [← e]))
theorem wp_vr1 {P : Program} {c : Code} {Q : Exit → Act → World → Prop} {a : Act} {w : World} {A : Array Value} {t : TypeId}
    (h : ∀ W, Below w.heap.size w W → RH W w.heap.size A t → c.wp P Q a W) : c.wp P Q a (w.alloc (.cells A t)) := h _ (ext_alloc _ _) (RH.new _ _ _)
def isS : Value → Bool
  | .string _ => true
  | _ => false
def NoS (A : Array Value) : Prop := ∀ (j : Nat) (u : Value), A[j]? = some u → isS u = false
/-- a slice that reads as the texts l -/
def SlS (w : World) (a : Option Addr) (l : List ByteArray) (c : Nat) : Prop := Sl w (.slice a l.length c) l.length (strs l)
theorem SlS.ext {w w' : World} {a : Option Addr} {l : List ByteArray} {c : Nat} (h : SlS w a l c) (hb : Below w.heap.size w w') : SlS w' a l c := Sl.ext h hb
theorem SlS.far {w w' : World} {b : Nat} {A : Array Value} {a : Option Addr} {l : List ByteArray} {c : Nat} (h : SlS w a l c) (hA : Box w b A) (hn : NoS A) (hk : ∀ p : Addr, p.block ≠ b → w'.cell? p = w.cell? p) : SlS w' a l c := by
  obtain ⟨a', cap, hv, h1, h2, h0, h3⟩ := h
  refine ⟨a', cap, hv, h1, h2, h0, fun i x hx => ?_⟩
  obtain ⟨b', o, ha, hc⟩ := h3 i x hx
  refine ⟨b', o, ha, ?_⟩
  rw [hk _ (fun e => ?_)]
  · exact hc
  · have e' : b' = b := e
    subst e'
    rw [hA.2] at hc
    have h4 := hn _ _ hc
    simp only [strs, List.getElem?_map] at hx
    cases hl : l[i]? with
    | none => rw [hl] at hx; cases hx
    | some s => rw [hl] at hx; injection hx with hx; subst hx; cases h4
theorem SlS.at {w : World} {a : Option Addr} {l : List ByteArray} {c k : Nat} (h : SlS w a l c) (hk : k < l.length) : ∃ b o, a = some ⟨b, o, none⟩ ∧ w.cell? ⟨b, o + k, none⟩ = some (.string l[k]) := Sl.addr h (strs_get hk)
end Tx
end Go.Proofs.YtbgbfjfboaajbaaGreatDoor
namespace Go.Proofs.YtbgbfjfboaajbaaGreatDoor
open Go.RowKit
namespace Tx
open _root_.Go.Proofs.YtbgbfjfboaajbaaGreatDoor.Nm
/-- the table that strconv reads -/
def Tb (w : World) : Prop := Lib.TabIs Tryz.prog w "internal/strconv.uint64pow10" .u64 Lib.pow10Tab
theorem Tb.ext {w w' : World} (h : Tb w) (hb : Below w.heap.size w w') : Tb w' := by
  cases hg : Tryz.prog.globalNamed "internal/strconv.uint64pow10" with
  | none => unfold Tb Lib.TabIs World.var? at h; rw [hg] at h; cases h
  | some g => exact Joins.tab_stays hg h hb (Nat.le_refl _)
/-- the library's own bound holds some number -/
def Ml (w : World) : Prop := ∃ m : Int, w.cell? ⟨0, 0, none⟩ = some (.int .i64 m)
theorem Ml.ext {w w' : World} (h : Ml w) (hb : Below w.heap.size w w') : Ml w' := by
  obtain ⟨m, hm⟩ := h
  exact ⟨m, (hb.cell (World.block_lt_of_cell? _ _ hm)).trans hm⟩
def stB (l : List UInt8) : ByteArray := ⟨l.toArray⟩
theorem stB_self (s : ByteArray) : stB s.data.toList = s := by cases s; simp [stB]
theorem stB_size (l : List UInt8) : (stB l).size = l.length := by simp [stB, ByteArray.size]
theorem below_drewN' (w : World) (n : Nat) : Below w.heap.size w (w.drewN n) := below_drewN (Below.refl _ _) n
theorem atoi_at (s : ByteArray) (h : Digs s.data.toList) (h0 : 0 < s.size) (hl : s.size ≤ 18) (w : World) : Calls Tryz.prog 60 #[.string s] w fun e w' => e = .returned (.tuple #[.int .i64 ((decv s.data.toList : Nat) : Int), .nilIface]) ∧ Below w.heap.size w w' := by
  have hne : s.data.toList ≠ [] := by
    intro e
    have : s.data.toList.length = s.size := Array.length_toList
    rw [e] at this; simp at this; omega
  refine (Tryz.strconv_Atoi s _ hl (atoi_digs h hne) w).mono ?_
  rintro e w' ⟨rfl, t, rfl⟩
  refine ⟨rfl, ?_, ?_, ?_, ?_, ?_⟩
  · simp [Lib.bytesWorld, World.freeze]; rfl
  · simp [Lib.bytesWorld, World.freeze]
  · simp [Lib.bytesWorld, World.freeze]; rfl
  · rw [Lib.bytesWorld_size]; omega
  · exact fun k hk => Lib.bytesWorld_at_old _ _ _ _ hk
theorem split_list (s : ByteArray) (c : UInt8) : Lib.splitB ⟨#[c]⟩ 0 (Lib.countB s ⟨#[c]⟩) s = (cutL c s.data.toList).map stB := by
  rw [← split_one, List.map_map]
  conv => lhs; rw [← List.map_id (Lib.splitB ⟨#[c]⟩ 0 (Lib.countB s ⟨#[c]⟩) s)]
  exact List.map_congr_left fun x _ => (stB_self x).symm
theorem cutL_len {c : UInt8} : ∀ {l : List UInt8}, ∀ x ∈ cutL c l, x.length ≤ l.length
  | [], x, hx => by simp [cutL] at hx; simp [hx]
  | b :: r, x, hx => by
    have ih := cutL_len (c := c) (l := r)
    unfold cutL at hx
    by_cases h : b = c
    · rw [if_pos h] at hx
      rcases List.mem_cons.1 hx with rfl | hx
      · simp
      · have := ih x hx; simp; omega
    · rw [if_neg h] at hx
      cases hc : cutL c r with
      | nil => exact absurd hc (cutL_ne c r)
      | cons y z =>
        rw [hc] at hx ih
        rcases List.mem_cons.1 hx with rfl | hx
        · have := ih y (by simp); simp; omega
        · have := ih x (List.mem_cons_of_mem _ hx); simp; omega
/-- the pieces of a text, as a slice of the call's own -/
theorem split_at (s : ByteArray) (c : UInt8) (hs : s.size < 4294967281) (w : World) (hm : Ml w) : Calls Tryz.prog 39 #[.string s, .string ⟨#[c]⟩] w fun e w' => ∃ a k, e = .returned (.slice a ((cutL c s.data.toList).map stB).length k) ∧ Sl w' (.slice a ((cutL c s.data.toList).map stB).length k) ((cutL c s.data.toList).map stB).length (strs ((cutL c s.data.toList).map stB)) ∧ Below w.heap.size w w' := by
  obtain ⟨m, hm⟩ := hm
  refine (Tryz.strings_Split s ⟨#[c]⟩ m w hs hm (Nat.le_refl 1)).mono ?_
  rintro e w' ⟨rfl, rfl⟩
  have hlen := Lib.splitB_all ⟨#[c]⟩ (Nat.le_refl 1) 0 _ s rfl
  rw [split_list] at hlen ⊢
  rw [← hlen]
  refine ⟨_, _, rfl, ?_, (Below.refl _ _).alloc (Nat.le_refl _) _⟩
  have h := Sl.new w ((cutL c s.data.toList).map stB |>.map Value.string).toArray 9 ((cutL c s.data.toList).map stB).length ((cutL c s.data.toList).map stB).length (Nat.le_refl _) (by
    have := Lib.countB_le ⟨#[c]⟩ (Nat.le_refl 1) s.size s (Nat.le_refl _)
    unfold maxLen; omega)
  simpa [strs] using h
end Tx
end Go.Proofs.YtbgbfjfboaajbaaGreatDoor
namespace Go.Proofs.YtbgbfjfboaajbaaGreatDoor
open Go.RowKit
namespace Tx
open _root_.Go.Proofs.YtbgbfjfboaajbaaGreatDoor.Nm
theorem zle : (⟨#[]⟩ : ByteArray).size ≤ maxLen := by decide
theorem num_get {o : Option Int} {n : Int} (h1 : o.isSome = true) (h2 : ∀ v, o = some v → v = n) : o = some n := by
 cases o with
 | none => cases h1
 | some v => rw [h2 v rfl]
theorem num_none {o : Option Int} (h : o.isSome = false) : o = none := by
 cases o with
 | none => rfl
 | some v => cases h
theorem readW_len {L : List (List UInt8)} (h4 : L.length ≠ 4) (h7 : L.length ≠ 7) : readW L = none := by
 rcases L with _ | ⟨a, _ | ⟨b, _ | ⟨c, _ | ⟨d, _ | ⟨k, _ | ⟨m, _ | ⟨z, _ | ⟨y, r⟩⟩⟩⟩⟩⟩⟩⟩
 ·rfl
 ·rfl
 ·rfl
 ·rfl
 ·exact absurd rfl h4
 ·rfl
 ·rfl
 ·exact absurd rfl h7
 ·rfl
theorem read4_no {a b c d : List UInt8} (h : wordsB a = false ∨ numO b = none ∨ numO c = none ∨ d ≠ markL) : read4 a b c d = none := by
 unfold read4
 cases hb : numO b with
 | none => rfl
 | some n =>
  cases hc : numO c with
  | none => rfl
  | some t =>
   show (if wordsB a = true ∧ d = markL then _ else none) = none
   rw [if_neg]
   rintro ⟨h1, h2⟩
   rcases h with h | h | h | h
   ·rw [h] at h1; cases h1
   ·rw [h] at hb; cases hb
   ·rw [h] at hc; cases hc
   ·exact h h2
theorem read4_yes {a b c d : List UInt8} {n t : Int} (hb : numO b = some n) (hc : numO c = some t) (ha : wordsB a = true) (hd : d = markL) : read4 a b c d = some ⟨bs a, n, 3, t, bs [], bs [], 0, 0⟩ := by
 unfold read4
 rw [hb, hc]
 exact if_pos ⟨ha, hd⟩
theorem read7_no {a b c d k m z : List UInt8} (h : wordsB a = false ∨ numO b = none ∨ numO c = none ∨ numO z = none ∨ seenB k = false ∨ wordsB m = false ∨ (d ≠ expL ∧ d ≠ outL)) : read7 a b c d k m z = none := by
 unfold read7
 cases hb : numO b with
 | none => rfl
 | some n =>
  cases hc : numO c with
  | none => rfl
  | some t =>
   cases hz : numO z with
   | none => rfl
   | some x =>
    show (if wordsB a = true ∧ seenB k = true ∧ wordsB m = true then (if d = expL then _ else if d = outL then _ else none) else none) = none
    by_cases hq : wordsB a = true ∧ seenB k = true ∧ wordsB m = true
    ·rw [if_pos hq]
     rcases h with h | h | h | h | h | h | h
     ·rw [h] at hq; exact absurd hq.1 (by decide)
     ·rw [h] at hb; cases hb
     ·rw [h] at hc; cases hc
     ·rw [h] at hz; cases hz
     ·rw [h] at hq; exact absurd hq.2.1 (by decide)
     ·rw [h] at hq; exact absurd hq.2.2 (by decide)
     ·rw [if_neg h.1, if_neg h.2]
    ·rw [if_neg hq]
theorem read7_exp {a b c k m z : List UInt8} {n t x : Int} (hb : numO b = some n) (hc : numO c = some t) (hz : numO z = some x) (ha : wordsB a = true) (hk : seenB k = true) (hm : wordsB m = true) : read7 a b c expL k m z = some ⟨bs a, n, 1, t, bs k, bs m, x, 0⟩ := by
 unfold read7
 rw [hb, hc, hz]
 show (if _ ∧ _ then (if expL = expL then _ else _) else none) = _
 rw [if_pos ⟨ha, hk, hm⟩, if_pos rfl]
theorem read7_out {a b c k m z : List UInt8} {n t x : Int} (hb : numO b = some n) (hc : numO c = some t) (hz : numO z = some x) (ha : wordsB a = true) (hk : seenB k = true) (hm : wordsB m = true) : read7 a b c outL k m z = some ⟨bs a, n, 2, t, bs k, bs m, 0, x⟩ := by
 unfold read7
 rw [hb, hc, hz]
 show (if _ ∧ _ then (if outL = expL then _ else if outL = outL then _ else _) else none) = _
 rw [if_pos ⟨ha, hk, hm⟩, if_neg (by decide), if_pos rfl]
/-- the pieces' cells -/
def Pcs (w : World) (pb po : Nat) (l : List ByteArray) : Prop := ∀ k (h : k < l.length), w.cell? ⟨pb, po + k, none⟩ = some (.string l[k])
theorem Pcs.ext {w w' : World} {pb po : Nat} {l : List ByteArray} (h : Pcs w pb po l) (hb : Below w.heap.size w w') : Pcs w' pb po l := fun k hk => (hb.cell (World.block_lt_of_cell? _ _ (h k hk))).trans (h k hk)
theorem Pcs.far {w w' : World} {pb po b : Nat} {A : Array Value} {l : List ByteArray} (h : Pcs w pb po l) (_ : Box w b A) (hn : pb ≠ b) (hk : ∀ p : Addr, p.block ≠ b → w'.cell? p = w.cell? p) : Pcs w' pb po l := fun k h9 => (hk _ hn).trans (h k h9)
theorem Pcs.lt {w : World} {pb po : Nat} {l : List ByteArray} (h : Pcs w pb po l) (hl : 0 < l.length) : pb < w.heap.size := World.block_lt_of_cell? _ _ (h 0 hl)
theorem SlS.pcs {w : World} {a : Option Addr} {l : List ByteArray} {c : Nat} (h : SlS w a l c) (hl : 0 < l.length) : ∃ pb po, a = some ⟨pb, po, none⟩ ∧ Pcs w pb po l := by
 obtain ⟨b, o, rfl, _⟩ := h.at hl
 refine ⟨b, o, rfl, fun k hk => ?_⟩
 obtain ⟨b', o', e, hc⟩ := h.at hk
 cases e
 exact hc
theorem Pcs.ne {w : World} {pb po b : Nat} {l : List ByteArray} {s k m : ByteArray} {n1 n2 n3 n4 n5 : Int} (h : Pcs w pb po l) (hl : 3 < l.length) (hA : Box w b #[.string s, .int .i64 n1, .int .i64 n2, .int .i64 n3, .string k, .string m, .int .i64 n4, .int .i64 n5]) : pb ≠ b := by
 rintro rfl
 have c0 := h 0 (by omega)
 have c1 := h 1 (by omega)
 have c2 := h 2 (by omega)
 rw [hA.2] at c0 c1 c2
 match po, c0, c1, c2 with
 | 0, _, c1, _ => cases c1
 | 1, c0, _, _ => cases c0
 | 2, c0, _, _ => cases c0
 | 3, c0, _, _ => cases c0
 | 4, _, _, c2 => cases c2
 | 5, _, c1, _ => cases c1
 | 6, c0, _, _ => cases c0
 | 7, c0, _, _ => cases c0
 | j + 8, c0, _, _ => simp at c0
/-- what reading an event's words gives -/
def RdE (l : List UInt8) (w : World) (e : Ending) (w' : World) : Prop := ∃ x b, e = .returned (.tuple #[.agg (evC x), .bool b]) ∧ x.ok ∧ ((readO l = some x ∧ b = true) ∨ (readO l = none ∧ b = false)) ∧ Below w.heap.size w w'
end Tx
end Go.Proofs.YtbgbfjfboaajbaaGreatDoor
namespace Go.Proofs.YtbgbfjfboaajbaaGreatDoor
open Go.RowKit
namespace Tx
open _root_.Go.Proofs.YtbgbfjfboaajbaaGreatDoor.Nm
theorem cut_is (c : UInt8) (l : List UInt8) : Lib.cut l [c] = ((cut1 c l).1, (cut1 c l).2.getD [], (cut1 c l).2.isSome) := by
  unfold Lib.cut
  by_cases h : c ∈ l
  · obtain ⟨x, r, rfl, hx⟩ := mem_split h
    rw [index_at hx, if_pos (by omega), cut1_app hx]
    simp
  · rw [index_no h, if_neg (by decide), cut1_none h]
    rfl
theorem cut_at (s : ByteArray) (c : UInt8) (hs : s.size < 4294967281) (w : World) (hm : Ml w) : Calls Tryz.prog 22 #[.string s, .string ⟨#[c]⟩] w fun e w' => e = .returned (.tuple #[.string (stB (cut1 c s.data.toList).1), .string (stB ((cut1 c s.data.toList).2.getD [])), .bool (cut1 c s.data.toList).2.isSome]) ∧ Below w.heap.size w w' := by
  obtain ⟨m, hm⟩ := hm
  refine (Tryz.strings_Cut s ⟨#[c]⟩ m w hs hm).mono ?_
  rintro e w' ⟨rfl, n, rfl⟩
  refine ⟨?_, below_drewN' _ _⟩
  rw [show (⟨#[c]⟩ : ByteArray).data.toList = [c] from rfl, cut_is]
  rfl
end Tx
end Go.Proofs.YtbgbfjfboaajbaaGreatDoor
namespace Go.Proofs.YtbgbfjfboaajbaaGreatDoor
namespace St
open Go.Sort
variable {α : Type} [Inhabited α]
/-- n places from a on, exchanged with those from b on -/
def rangeSwap (d : Array α) (a b : Nat) : Nat → Array α
  | 0 => d
  | k + 1 => swp (rangeSwap d a b k) (a + k) (b + k)
theorem rangeSwap_size (d : Array α) (a b n : Nat) : (rangeSwap d a b n).size = d.size := by
  induction n with
  | zero => rfl
  | succ k ih => rw [rangeSwap, size_swp, ih]
theorem rangeSwap_get (d : Array α) {a b n : Nat} (hab : a + n ≤ b) (hb : b + n ≤ d.size) : ∀ k, k ≤ n → ∀ x, (rangeSwap d a b k)[x]! = if a ≤ x ∧ x < a + k then d[x - a + b]! else if b ≤ x ∧ x < b + k then d[x - b + a]! else d[x]!
  | 0, _, x => by
    rw [if_neg (by omega), if_neg (by omega)]; rfl
  | k + 1, hk, x => by
    have ih := rangeSwap_get d hab hb k (by omega)
    have hs := rangeSwap_size d a b k
    rw [rangeSwap]
    by_cases h1 : x = a + k
    · subst h1
      rw [swp_left _ _ _ (by omega) (by omega), ih, if_neg (by omega), if_neg (by omega), if_pos (by omega)]
      congr 1; omega
    · by_cases h2 : x = b + k
      · subst h2
        rw [swp_right _ _ _ (by omega), ih, if_neg (by omega), if_neg (by omega), if_neg (by omega), if_pos (by omega)]
        congr 1; omega
      · rw [swp_other _ _ _ _ h1 h2, ih]
        (repeat' split) <;> first | rfl | omega | (congr 1; omega)
theorem rangeSwap_perm (d : Array α) {a b n lo hi : Nat} (hlo : lo ≤ a) (hlb : lo ≤ b) (ha : a + n ≤ hi) (hhi : b + n ≤ hi) (hs : hi ≤ d.size) : ∀ k, k ≤ n → PermIn lo hi d (rangeSwap d a b k)
  | 0, _ => permIn_refl _ _ _
  | k + 1, hk => permIn_trans _ _ _ _ _ (rangeSwap_perm d hlo hlb ha hhi hs k (by omega)) (swp_permIn _ _ _ _ _ (by omega) (by omega) (by omega) (by omega) (by rw [rangeSwap_size]; exact hs))
/-- The places of [m - i, m + j), the later ones first. -/
def Rot (m i j : Nat) (d d' : Array α) : Prop := PermIn (m - i) (m + j) d d' ∧ ∀ x, d'[x]! = if m - i ≤ x ∧ x < m - i + j then d[x + i]! else if m - i + j ≤ x ∧ x < m + j then d[x - j]! else d[x]!
theorem rot_eq (d : Array α) {m i : Nat} (hi : i ≤ m) (hm : m + i ≤ d.size) : Rot m i i d (rangeSwap d (m - i) m i) := by
  refine ⟨rangeSwap_perm d (Nat.le_refl _) (by omega) (by omega) (by omega) hm i (Nat.le_refl _), fun x => ?_⟩
  rw [rangeSwap_get d (by omega) (by omega) i (Nat.le_refl _)]
  (repeat' split) <;> first | rfl | omega | (congr 1; omega)
theorem rot_more (d d' : Array α) {m i j : Nat} (hi : i ≤ m) (hji : j < i) (hm : m + j ≤ d.size) (h : Rot m (i - j) j (rangeSwap d (m - i) m j) d') : Rot m i j d d' := by
  obtain ⟨h1, h2⟩ := h
  have hp := rangeSwap_perm d (a := m - i) (b := m) (n := j) (lo := m - i) (hi := m + j) (Nat.le_refl _) (by omega) (by omega) (Nat.le_refl _) hm j (Nat.le_refl _)
  refine ⟨permIn_trans _ _ _ _ _ hp (permIn_mono _ _ _ _ _ _ (by omega) (Nat.le_refl _) (by rw [rangeSwap_size]; exact hm) h1), fun x => ?_⟩
  have g := rangeSwap_get d (a := m - i) (b := m) (n := j) (by omega) hm j (Nat.le_refl _)
  rw [h2, g, g, g]
  (repeat' split) <;> first | rfl | omega | (congr 1; omega)
theorem rot_less (d d' : Array α) {m i j : Nat} (hi : i ≤ m) (h0 : 0 < i) (hij : i < j) (hm : m + j ≤ d.size) (h : Rot m i (j - i) (rangeSwap d (m - i) (m + j - i) i) d') : Rot m i j d d' := by
  obtain ⟨h1, h2⟩ := h
  have hp := rangeSwap_perm d (a := m - i) (b := m + j - i) (n := i) (lo := m - i) (hi := m + j) (Nat.le_refl _) (by omega) (by omega) (by omega) hm i (Nat.le_refl _)
  refine ⟨permIn_trans _ _ _ _ _ hp (permIn_mono _ _ _ _ _ _ (Nat.le_refl _) (by omega) (by rw [rangeSwap_size]; exact hm) h1), fun x => ?_⟩
  have g := rangeSwap_get d (a := m - i) (b := m + j - i) (n := i) (by omega) (by omega) i (Nat.le_refl _)
  rw [h2, g, g, g]
  (repeat' split) <;> first | rfl | omega | (congr 1; omega)
end St
end Go.Proofs.YtbgbfjfboaajbaaGreatDoor
