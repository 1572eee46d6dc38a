/- What a region that draws its order holds on to, where it ends in a store into a block of the call's own. No program stands in it. Texts cut, split and joined; numerals written and read: the library's contracts at the seat, in plain words. -/
import Derived.Test.YtfdaakghkhecgaaGreatDoorVm00
import Derived.Deep.RegionHeld3
import Derived.Test.YtfdaakghkhecgaaGreatDoorShelf
import Derived.Test.YtfdaakghkhecgaaGreatDoorVm02
import Derived.Lib.SmallJoins
import Derived.Lib.AppendIntMem
namespace Go.Proofs.YtfdaakghkhecgaaGreatDoor
open Go.RowKit
theorem ext_alloc (w : World) (o : Obj) : Below w.heap.size w (w.alloc o) := (Below.refl _ _).alloc (Nat.le_refl _) _
/-- A block that may be written. -/
def Fre (W : World) (b : Nat) : Prop := ∀ j, W.frozen? ⟨b, j, none⟩ = false
theorem Fre.ext {W W' : World} {b : Nat} {A : Array Value} (h : Fre W b) (hA : Box W b A) (hb : Below W.heap.size W W') : Fre W' b :=
  fun j => (hb.frozen (p := ⟨b, j, none⟩) hA.1).trans (h j)
theorem Fre.new (w : World) (A : Array Value) (t : TypeId) : Fre (w.alloc (.cells A t)) w.heap.size := fun j => by simp
/-- held: below B the world is W's, and two blocks read as they did -/
abbrev S2R (W : World) (B : Nat) (b1 : Nat) (A1 : Array Value) (b2 : Nat) (A2 : Array Value) (w' : World) : Prop :=
  Below B W w' ∧ (∀ j, w'.cell? ⟨b1, j, none⟩ = A1[j]?) ∧ (∀ j, w'.cell? ⟨b2, j, none⟩ = A2[j]?)
theorem S2R.start {W : World} {B b1 : Nat} {A1 : Array Value} {b2 : Nat} {A2 : Array Value} (h1 : Box W b1 A1) (h2 : Box W b2 A2) : S2R W B b1 A1 b2 A2 W.drew :=
  ⟨(Below.refl _ _).drew, h1.2, h2.2⟩
theorem S2R.ext {W w1 w2 : World} {B b1 : Nat} {A1 : Array Value} {b2 : Nat} {A2 : Array Value} (hb : Below w1.heap.size w1 w2) (h : S2R W B b1 A1 b2 A2 w1) (hB : B ≤ W.heap.size) (h1 : Box W b1 A1) (h2 : Box W b2 A2) : S2R W B b1 A1 b2 A2 w2 :=
  ⟨h.1.trans (hb.mono (Nat.le_trans hB h.1.size)), fun j => (hb.cell (p := ⟨b1, j, none⟩) (Nat.lt_of_lt_of_le h1.1 h.1.size)).trans (h.2.1 j), fun j => (hb.cell (p := ⟨b2, j, none⟩) (Nat.lt_of_lt_of_le h2.1 h.1.size)).trans (h.2.2 j)⟩
theorem S2R.set {W w1 : World} {B b1 : Nat} {A1 : Array Value} {b2 : Nat} {A2 : Array Value} {p : Addr} {v : Value} (h : S2R W B b1 A1 b2 A2 w1) (hp : B ≤ p.block) (h1 : b1 < B) (h2 : b2 < B) : S2R W B b1 A1 b2 A2 (w1.setCell p v) := by
  have hb : Below B w1 (w1.setCell p v) := (Below.refl _ _).setCell hp v
  exact ⟨h.1.trans hb, fun j => (hb.cell (p := ⟨b1, j, none⟩) h1).trans (h.2.1 j), fun j => (hb.cell (p := ⟨b2, j, none⟩) h2).trans (h.2.2 j)⟩

/-- A slice over a new block. -/
theorem Sl.new (w : World) (A : Array Value) (t : TypeId) (n cap : Nat) (h : n ≤ cap) (hm : cap ≤ maxLen) : Sl (w.alloc (.cells A t)) (.slice (some ⟨w.heap.size, 0, none⟩) n cap) n A.toList :=
  ⟨_, _, rfl, h, hm, (fun h => by cases h), fun i x hx => ⟨_, _, rfl, by simpa using hx⟩⟩

theorem S2R.grown {W w1 w2 : World} {B b1 : Nat} {A1 : Array Value} {b2 : Nat} {A2 : Array Value} {row : Option Nat} (hg : w1.grownBy w2 row) (h : S2R W B b1 A1 b2 A2 w1) (hB : B ≤ W.heap.size) (h1 : Box W b1 A1) (h2 : Box W b2 A2)
    (hr : ∀ k, row = some k → B ≤ k ∧ k ≠ b1 ∧ k ≠ b2) : S2R W B b1 A1 b2 A2 w2 := by
  have l1 := Nat.lt_of_lt_of_le h1.1 h.1.size
  have l2 := Nat.lt_of_lt_of_le h2.1 h.1.size
  refine ⟨h.1.grown hg (Nat.le_trans hB h.1.size) (fun k e => (hr k e).1), fun j => ?_, fun j => ?_⟩
  · rw [World.cell?_of_block (w := w1) (hg.block b1 l1 (fun e => (hr b1 e.symm).2.1 rfl))]; exact h.2.1 j
  · rw [World.cell?_of_block (w := w1) (hg.block b2 l2 (fun e => (hr b2 e.symm).2.2 rfl))]; exact h.2.2 j
end Go.Proofs.YtfdaakghkhecgaaGreatDoor
namespace Go.Proofs.YtfdaakghkhecgaaGreatDoor
open Go.RowKit
namespace Tx
open _root_.Go.Proofs.YtfdaakghkhecgaaGreatDoor.Nm
/-- the table that strconv reads -/
def Tb (w : World) : Prop := Lib.TabIs Tryz.prog w "internal/strconv.uint64pow10" .u64 Lib.pow10Tab
theorem Tb.ext {w w' : World} (h : Tb w) (hb : Below w.heap.size w w') : Tb w' := by
  cases hg : Tryz.prog.globalNamed "internal/strconv.uint64pow10" with
  | none => unfold Tb Lib.TabIs World.var? at h; rw [hg] at h; cases h
  | some g => exact Joins.tab_stays hg h hb (Nat.le_refl _)
/-- the library's own bound holds some number -/
def Ml (w : World) : Prop := ∃ m : Int, w.cell? ⟨0, 0, none⟩ = some (.int .i64 m)
theorem Ml.ext {w w' : World} (h : Ml w) (hb : Below w.heap.size w w') : Ml w' := by
  obtain ⟨m, hm⟩ := h
  exact ⟨m, (hb.cell (World.block_lt_of_cell? _ _ hm)).trans hm⟩
def stB (l : List UInt8) : ByteArray := ⟨l.toArray⟩
theorem stB_list (l : List UInt8) : (stB l).data.toList = l := rfl
theorem stB_self (s : ByteArray) : stB s.data.toList = s := by cases s; simp [stB]
theorem stB_size (l : List UInt8) : (stB l).size = l.length := by simp [stB, ByteArray.size]
theorem below_drewN' (w : World) (n : Nat) : Below w.heap.size w (w.drewN n) := below_drewN (Below.refl _ _) n
theorem itoa_at (n : Nat) (hn : n ≤ 9223372036854775807) (w : World) (ht : Tb w) : Calls Tryz.prog 31 #[.int .i64 (n : Int)] w fun e w' => e = .returned (.string (stB (decS n))) ∧ Below w.heap.size w w' := by
  refine (Tryz.strconv_Itoa (n : Int) (by omega) (by omega) w ht).mono ?_
  rintro e w' ⟨rfl, k, os, rfl⟩
  exact ⟨by rw [itoa_is, itoaS_nat]; rfl, Lib.below_grow _ _ (Nat.le_refl _) _ _⟩
theorem atoi_at (s : ByteArray) (h : Digs s.data.toList) (h0 : 0 < s.size) (hl : s.size ≤ 18) (w : World) : Calls Tryz.prog 35 #[.string s] w fun e w' => e = .returned (.tuple #[.int .i64 ((decv s.data.toList : Nat) : Int), .nilIface]) ∧ Below w.heap.size w w' := by
  have hne : s.data.toList ≠ [] := by
    intro e
    have : s.data.toList.length = s.size := Array.length_toList
    rw [e] at this; simp at this; omega
  refine (Tryz.strconv_Atoi s _ hl (atoi_digs h hne) w).mono ?_
  rintro e w' ⟨rfl, t, rfl⟩
  refine ⟨rfl, ?_, ?_, ?_, ?_, ?_⟩
  · simp [Lib.bytesWorld, World.freeze]; rfl
  · simp [Lib.bytesWorld, World.freeze]
  · simp [Lib.bytesWorld, World.freeze]; rfl
  · rw [Lib.bytesWorld_size]; omega
  · exact fun k hk => Lib.bytesWorld_at_old _ _ _ _ hk
theorem cut_is (c : UInt8) (l : List UInt8) : Lib.cut l [c] = ((cut1 c l).1, (cut1 c l).2.getD [], (cut1 c l).2.isSome) := by
  by_cases h : c ∈ l
  · obtain ⟨x, r, rfl, hx⟩ := mem_split h
    unfold Lib.cut
    rw [index_at hx, if_pos (by omega), cut1_app hx]
    simp
  · unfold Lib.cut
    rw [index_no h, if_neg (by decide), cut1_none h]
    rfl
theorem cut_at (s : ByteArray) (c : UInt8) (hs : s.size < 4294967281) (w : World) (hm : Ml w) : Calls Tryz.prog 15 #[.string s, .string ⟨#[c]⟩] w fun e w' => e = .returned (.tuple #[.string (stB (cut1 c s.data.toList).1), .string (stB ((cut1 c s.data.toList).2.getD [])), .bool (cut1 c s.data.toList).2.isSome]) ∧ Below w.heap.size w w' := by
  obtain ⟨m, hm⟩ := hm
  refine (Tryz.strings_Cut s ⟨#[c]⟩ m w hs hm).mono ?_
  rintro e w' ⟨rfl, n, rfl⟩
  refine ⟨?_, below_drewN' _ _⟩
  rw [show (⟨#[c]⟩ : ByteArray).data.toList = [c] from rfl, cut_is]
  rfl
theorem split_list (s : ByteArray) (c : UInt8) : Lib.splitB ⟨#[c]⟩ 0 (Lib.countB s ⟨#[c]⟩) s = (cutL c s.data.toList).map stB := by
  rw [← split_one, List.map_map]
  conv => lhs; rw [← List.map_id (Lib.splitB ⟨#[c]⟩ 0 (Lib.countB s ⟨#[c]⟩) s)]
  exact List.map_congr_left fun x _ => (stB_self x).symm
theorem cutL_len {c : UInt8} : ∀ {l : List UInt8}, ∀ x ∈ cutL c l, x.length ≤ l.length
  | [], x, hx => by simp [cutL] at hx; simp [hx]
  | b :: r, x, hx => by
    have ih := cutL_len (c := c) (l := r)
    unfold cutL at hx
    by_cases h : b = c
    · rw [if_pos h] at hx
      rcases List.mem_cons.1 hx with rfl | hx
      · simp
      · have := ih x hx; simp; omega
    · rw [if_neg h] at hx
      cases hc : cutL c r with
      | nil => exact absurd hc (cutL_ne c r)
      | cons y z =>
        rw [hc] at hx ih
        rcases List.mem_cons.1 hx with rfl | hx
        · have := ih y (by simp); simp; omega
        · have := ih x (List.mem_cons_of_mem _ hx); simp; omega
/-- the pieces of a text, as a slice of the call's own -/
theorem split_at (s : ByteArray) (c : UInt8) (hs : s.size < 4294967281) (w : World) (hm : Ml w) : Calls Tryz.prog 16 #[.string s, .string ⟨#[c]⟩] w fun e w' => ∃ a k, e = .returned (.slice a ((cutL c s.data.toList).map stB).length k) ∧ Sl w' (.slice a ((cutL c s.data.toList).map stB).length k) ((cutL c s.data.toList).map stB).length (strs ((cutL c s.data.toList).map stB)) ∧ Below w.heap.size w w' := by
  obtain ⟨m, hm⟩ := hm
  refine (Tryz.strings_Split s ⟨#[c]⟩ m w hs hm (Nat.le_refl 1)).mono ?_
  rintro e w' ⟨rfl, rfl⟩
  have hlen := Lib.splitB_all ⟨#[c]⟩ (Nat.le_refl 1) 0 _ s rfl
  rw [split_list] at hlen ⊢
  rw [← hlen]
  refine ⟨_, _, rfl, ?_, (Below.refl _ _).alloc (Nat.le_refl _) _⟩
  have h := Sl.new w ((cutL c s.data.toList).map stB |>.map Value.string).toArray 9 ((cutL c s.data.toList).map stB).length ((cutL c s.data.toList).map stB).length (Nat.le_refl _) (by
    have := Lib.countB_le ⟨#[c]⟩ (Nat.le_refl 1) s.size s (Nat.le_refl _)
    unfold maxLen; omega)
  simpa [strs] using h
theorem join_is (c : UInt8) : ∀ l : List (List UInt8), Lib.join l [c] = joinL c l
  | [] => rfl
  | [x] => Lib.join_one x [c]
  | x :: y :: r => by
    rw [Lib.join_cons, joinL, ← join_is c (y :: r), Lib.join_cons]
    simp [Lib.joinTail]
theorem joinL_len {c : UInt8} : ∀ {l : List (List UInt8)} {k : Nat}, (∀ x ∈ l, x.length ≤ k) → (joinL c l).length ≤ l.length * (k + 1)
  | [], _, _ => Nat.zero_le _
  | [x], k, h => by have := h x (by simp); simp [joinL]; omega
  | x :: y :: r, k, h => by
    have h1 := h x (by simp)
    have h2 := joinL_len (c := c) (l := y :: r) (k := k) (fun z hz => h z (List.mem_cons_of_mem _ hz))
    have e : joinL c (x :: y :: r) = x ++ c :: joinL c (y :: r) := rfl
    rw [e, List.length_append, List.length_cons, List.length_cons, Nat.succ_mul]
    omega
end Tx
end Go.Proofs.YtfdaakghkhecgaaGreatDoor
