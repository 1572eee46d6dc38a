/- Plain: versions as texts: what is written is read back, and what is read was so written. No program stands in it. What a region that draws its order holds on to, where it ends in a store into a block of the call's own. No program stands in it. Texts cut, split and joined; numerals written and read: the library's contracts at the seat, in plain words. The reference's words on texts: isDigit, number, allDigits, isPre, Within, Number; versionNumber of package value. Rows: blocks of which all cells are known; a whole row read, and written. No program stands in it. Rows and slices of texts, as the walks over versions carry them. -/
import Derived.Test.YtfdaakghkhecgaaDoorVb01
import Derived.Test.YtfdaakghkhecgaaDoorVb00
import Derived.Deep.RegionHeld3
import Derived.Test.YtfdaakghkhecgaaDoorShelf
import Derived.Lib.SmallJoins
import Derived.Lib.AppendIntMem
import Derived.Deep.WholeRow
import Derived.Laws.CopyOwn
namespace Go.Proofs.YtfdaakghkhecgaaDoor
namespace Tx
open _root_.Go.Proofs.YtfdaakghkhecgaaDoor.Nm
/-- what stands before the first byte c, and behind it -/
def cut1 (c : UInt8) : List UInt8 → List UInt8 × Option (List UInt8)
  | [] => ([], none)
  | b :: r => if b = c then ([], some r) else (b :: (cut1 c r).1, (cut1 c r).2)
theorem cut1_none {c : UInt8} : ∀ {l : List UInt8}, c ∉ l → cut1 c l = (l, none)
  | [], _ => rfl
  | b :: r, h => by
    have hb : b ≠ c := fun e => h (by simp [e])
    rw [cut1, if_neg hb, cut1_none (l := r) (fun e => h (List.mem_cons_of_mem _ e))]
theorem cut1_app {c : UInt8} {r : List UInt8} : ∀ {x : List UInt8}, c ∉ x → cut1 c (x ++ c :: r) = (x, some r)
  | [], _ => by show cut1 c (c :: r) = _; rw [cut1, if_pos rfl]
  | b :: x, h => by
    have hb : b ≠ c := fun e => h (by simp [e])
    show cut1 c (b :: (x ++ c :: r)) = _
    rw [cut1, if_neg hb, cut1_app (x := x) (fun e => h (List.mem_cons_of_mem _ e))]
def tailO (c : UInt8) : Option (List UInt8) → List UInt8
  | none => []
  | some r => c :: r
theorem cut1_back (c : UInt8) : ∀ l, (cut1 c l).1 ++ tailO c (cut1 c l).2 = l
  | [] => rfl
  | b :: r => by
    unfold cut1
    by_cases h : b = c
    · rw [if_pos h, h]; rfl
    · rw [if_neg h]
      show b :: ((cut1 c r).1 ++ tailO c (cut1 c r).2) = _
      rw [cut1_back c r]
/-- a number of a version -/
def vnO (l : List UInt8) : Option Nat := if wholeB l = true ∧ l.length ≤ 6 then some (decv l) else none
theorem whole_digsB {l : List UInt8} : digsB l = true ↔ Digs l := by
  unfold digsB
  rw [List.all_eq_true]
  constructor
  · intro h c hc
    have := of_decide_eq_true (h c hc)
    omega
  · intro h c hc
    have := h c hc
    unfold digC digN
    exact decide_eq_true (by omega)
theorem whole_iff {l : List UInt8} : wholeB l = true ↔ Whl l := by
  unfold wholeB Whl
  cases l with
  | nil => simp
  | cons c r =>
    simp only [List.isEmpty_cons, Bool.not_false, Bool.true_and, Bool.and_eq_true, whole_digsB, zeroAt, List.length_cons]
    constructor
    · rintro ⟨h1, h2⟩
      refine ⟨h2, c, r, rfl, fun hr e => ?_⟩
      have hl : 0 < r.length := List.length_pos_iff.2 hr
      have : (decide (1 < r.length + 1) && decide ((c.toNat : Int) = 48)) = true := by simp [e]; omega
      rw [this] at h1; cases h1
    · rintro ⟨h2, c', r', e, h1⟩
      injection e with e1 e2
      subst e1; subst e2
      refine ⟨?_, h2⟩
      rw [Bool.not_eq_true']
      by_cases hr : r = []
      · subst hr; rfl
      · have := h1 hr
        have h3 : decide ((c.toNat : Int) = 48) = false := decide_eq_false (by omega)
        rw [h3, Bool.and_false]
theorem vnO_iff {l : List UInt8} {n : Nat} : vnO l = some n ↔ l = decS n ∧ n ≤ 999999 := by
  unfold vnO
  constructor
  · intro h
    by_cases hc : wholeB l = true ∧ l.length ≤ 6
    · rw [if_pos hc] at h
      injection h with h
      have e := whl_eq n l (whole_iff.1 hc.1) h
      refine ⟨e, ?_⟩
      have := lt_of_decS (x := n) (k := 6) (by rw [← e]; exact hc.2)
      omega
    · rw [if_neg hc] at h; cases h
  · rintro ⟨rfl, h⟩
    rw [if_pos ⟨whole_iff.2 (decS_whl n), decS_length (x := n) (k := 6) (by omega) (by decide)⟩, decv_decS]
/-- the parts behind '-' -/
def preO : Option (List UInt8) → List ByteArray
  | none => []
  | some q => (cutL 46 q).map fun l => ⟨l.toArray⟩
/-- how a version is read -/
def verO (t : List UInt8) : Option Ver :=
  match cutL 46 (cut1 45 t).1 with
  | [a, b, c] => match vnO a, vnO b, vnO c with
    | some x, some y, some z => if (preO (cut1 45 t).2).length ≤ 10 ∧ (preO (cut1 45 t).2).all preOk = true then some ⟨x, y, z, preO (cut1 45 t).2⟩ else none
    | _, _, _ => none
  | _ => none
def preT (l : List ByteArray) : List UInt8 := if l = [] then [] else 45 :: joinL 46 (l.map (·.data.toList))
/-- how a version is written -/
def verT (x : Ver) : List UInt8 := decS x.ma.toNat ++ 46 :: (decS x.mi.toNat ++ 46 :: decS x.pa.toNat) ++ preT x.pre
theorem digs_free {l : List UInt8} (h : Digs l) {c : UInt8} (hc : c.toNat < 48 ∨ 57 < c.toNat) : c ∉ l := fun e => by
  have := h c e
  omega
theorem cut_three {a b c : List UInt8} (h1 : Digs a) (h2 : Digs b) (h3 : Digs c) : cutL 46 (a ++ 46 :: (b ++ 46 :: c)) = [a, b, c] := by
  rw [cutL_app (digs_free h1 (.inl (by decide))), cutL_app (digs_free h2 (.inl (by decide))), cutL_none (digs_free h3 (.inl (by decide)))]
theorem chk_num {x : Ver} (h : chkVer x = 0) : (0 ≤ x.ma ∧ x.ma ≤ 999999) ∧ (0 ≤ x.mi ∧ x.mi ≤ 999999) ∧ (0 ≤ x.pa ∧ x.pa ≤ 999999) ∧ x.pre.length ≤ 10 ∧ x.pre.all preOk = true := by
  unfold chkVer at h
  by_cases h1 : rngOk x = false
  · rw [if_pos h1] at h; cases h
  · rw [if_neg h1] at h
    by_cases h2 : 10 < x.pre.length
    · rw [if_pos h2] at h; cases h
    · rw [if_neg h2] at h
      by_cases h3 : x.pre.all preOk = true
      · have h4 : rngOk x = true := by simpa using h1
        unfold rngOk withinV at h4
        simp only [Bool.and_eq_true, decide_eq_true_eq] at h4
        exact ⟨h4.1.1, h4.1.2, h4.2, by omega, h3⟩
      · rw [if_neg h3] at h; cases h
theorem chk_of {x : Ver} (h1 : 0 ≤ x.ma ∧ x.ma ≤ 999999) (h2 : 0 ≤ x.mi ∧ x.mi ≤ 999999) (h3 : 0 ≤ x.pa ∧ x.pa ≤ 999999) (h4 : x.pre.length ≤ 10) (h5 : x.pre.all preOk = true) : chkVer x = 0 := by
  have hr : rngOk x = true := by
    unfold rngOk withinV
    simp only [Bool.and_eq_true, decide_eq_true_eq]
    exact ⟨⟨h1, h2⟩, h3⟩
  unfold chkVer
  rw [if_neg (by rw [hr]; decide), if_neg (by omega), if_pos h5]
/-- what is read was so written, and is right -/
theorem verO_back {t : List UInt8} {x : Ver} (h : verO t = some x) : verT x = t ∧ chkVer x = 0 := by
  have hb := cut1_back 45 t
  have hj := join_cut 46 (cut1 45 t).1
  unfold verO at h
  generalize hc : cut1 45 t = ct at h hb hj
  obtain ⟨hd, tl⟩ := ct
  simp only at h hb hj
  match hcl : cutL 46 hd, h with
  | [a, b, c], h =>
    rw [hcl] at hj
    simp only at h
    cases ha : vnO a with
    | none => rw [ha] at h; simp at h
    | some p =>
      cases hbb : vnO b with
      | none => rw [ha, hbb] at h; simp at h
      | some q =>
        cases hcc : vnO c with
        | none => rw [ha, hbb, hcc] at h; simp at h
        | some r =>
          rw [ha, hbb, hcc] at h
          simp only at h
          by_cases hp : (preO tl).length ≤ 10 ∧ (preO tl).all preOk = true
          · rw [if_pos hp] at h
            injection h with h
            subst h
            obtain ⟨rfl, h1⟩ := vnO_iff.1 ha
            obtain ⟨rfl, h2⟩ := vnO_iff.1 hbb
            obtain ⟨rfl, h3⟩ := vnO_iff.1 hcc
            refine ⟨?_, chk_of ⟨by simp, by simp; omega⟩ ⟨by simp, by simp; omega⟩ ⟨by simp, by simp; omega⟩ hp.1 hp.2⟩
            unfold verT
            simp only [Int.toNat_natCast]
            rw [← hb, ← hj]
            have ht : preT (preO tl) = tailO 45 tl := by
              cases tl with
              | none => rfl
              | some s =>
                have hne : preO (some s) ≠ [] := by
                  unfold preO
                  simp only [ne_eq, List.map_eq_nil_iff]
                  exact cutL_ne 46 s
                unfold preT
                rw [if_neg hne]
                show 45 :: joinL 46 (List.map _ (List.map _ (cutL 46 s))) = 45 :: s
                rw [List.map_map]
                have : ((fun x : ByteArray => x.data.toList) ∘ fun l : List UInt8 => (⟨l.toArray⟩ : ByteArray)) = id := by funext l; simp
                rw [this, List.map_id, join_cut]
            rw [ht]
            simp [joinL]
          · rw [if_neg hp] at h; cases h
theorem pre_free {s : ByteArray} (h : preOk s = true) : (46 : UInt8) ∉ s.data.toList := fun e => by
  unfold preOk preB at h
  simp only [Bool.and_eq_true] at h
  have := List.all_eq_true.1 h.1.2.1 46 e
  exact absurd this (by decide)
theorem cut_join {c : UInt8} : ∀ {l : List (List UInt8)}, l ≠ [] → (∀ x ∈ l, c ∉ x) → cutL c (joinL c l) = l
  | [], h, _ => absurd rfl h
  | [x], _, h => cutL_none (h x (by simp))
  | x :: y :: r, _, h => by
    show cutL c (x ++ c :: joinL c (y :: r)) = _
    rw [cutL_app (h x (by simp)), cut_join (by simp) (fun z hz => h z (List.mem_cons_of_mem _ hz))]
/-- what is written is read back -/
theorem verO_show {x : Ver} (h : chkVer x = 0) : verO (verT x) = some x := by
  obtain ⟨h1, h2, h3, h4, h5⟩ := chk_num h
  obtain ⟨ma, mi, pa, pre⟩ := x
  simp only at h1 h2 h3 h4 h5
  have f1 := digs_free (decS_digs ma.toNat) (c := 45) (.inl (by decide))
  have f2 := digs_free (decS_digs mi.toNat) (c := 45) (.inl (by decide))
  have f3 := digs_free (decS_digs pa.toNat) (c := 45) (.inl (by decide))
  have f4 : (45 : UInt8) ∉ decS ma.toNat ++ 46 :: (decS mi.toNat ++ 46 :: decS pa.toNat) := by
    intro e
    simp only [List.mem_append, List.mem_cons] at e
    rcases e with e | e | e | e | e
    · exact f1 e
    · exact absurd e (by decide)
    · exact f2 e
    · exact absurd e (by decide)
    · exact f3 e
  have hcut : cut1 45 (verT ⟨ma, mi, pa, pre⟩) = (decS ma.toNat ++ 46 :: (decS mi.toNat ++ 46 :: decS pa.toNat), if pre = [] then none else some (joinL 46 (pre.map (·.data.toList)))) := by
    unfold verT preT
    by_cases hp : pre = []
    · simp only [hp, if_true, List.append_nil]
      exact cut1_none f4
    · simp only [hp, if_false]
      exact cut1_app f4
  have hpre : preO (if pre = [] then none else some (joinL 46 (pre.map (·.data.toList)))) = pre := by
    by_cases hp : pre = []
    · rw [if_pos hp, hp]; rfl
    · rw [if_neg hp]
      show ((cutL 46 (joinL 46 (pre.map (·.data.toList)))).map fun l => (⟨l.toArray⟩ : ByteArray)) = pre
      rw [cut_join (by simpa using hp) (fun y hy => by
        obtain ⟨s, hs, rfl⟩ := List.mem_map.1 hy
        exact pre_free (List.all_eq_true.1 h5 s hs)), List.map_map]
      have : ((fun l : List UInt8 => (⟨l.toArray⟩ : ByteArray)) ∘ fun x : ByteArray => x.data.toList) = id := by funext s; simp
      rw [this, List.map_id]
  unfold verO
  rw [hcut]
  simp only
  rw [cut_three (decS_digs _) (decS_digs _) (decS_digs _)]
  simp only
  rw [vnO_iff.2 ⟨rfl, by omega⟩, vnO_iff.2 ⟨rfl, by omega⟩, vnO_iff.2 ⟨rfl, by omega⟩]
  simp only
  rw [hpre, if_pos ⟨h4, h5⟩]
  congr 1
  simp only [Ver.mk.injEq]
  exact ⟨by omega, by omega, by omega, trivial⟩
end Tx
end Go.Proofs.YtfdaakghkhecgaaDoor
namespace Go.Proofs.YtfdaakghkhecgaaDoor
open Go.RowKit
theorem ext_alloc (w : World) (o : Obj) : Below w.heap.size w (w.alloc o) := (Below.refl _ _).alloc (Nat.le_refl _) _
/-- A block that may be written. -/
def Fre (W : World) (b : Nat) : Prop := ∀ j, W.frozen? ⟨b, j, none⟩ = false
theorem Fre.ext {W W' : World} {b : Nat} {A : Array Value} (h : Fre W b) (hA : Box W b A) (hb : Below W.heap.size W W') : Fre W' b :=
  fun j => (hb.frozen (p := ⟨b, j, none⟩) hA.1).trans (h j)
theorem Fre.new (w : World) (A : Array Value) (t : TypeId) : Fre (w.alloc (.cells A t)) w.heap.size := fun j => by simp
/-- held: below B the world is W's, and two blocks read as they did -/
abbrev S2R (W : World) (B : Nat) (b1 : Nat) (A1 : Array Value) (b2 : Nat) (A2 : Array Value) (w' : World) : Prop :=
  Below B W w' ∧ (∀ j, w'.cell? ⟨b1, j, none⟩ = A1[j]?) ∧ (∀ j, w'.cell? ⟨b2, j, none⟩ = A2[j]?)
theorem S2R.ext {W w1 w2 : World} {B b1 : Nat} {A1 : Array Value} {b2 : Nat} {A2 : Array Value} (hb : Below w1.heap.size w1 w2) (h : S2R W B b1 A1 b2 A2 w1) (hB : B ≤ W.heap.size) (h1 : Box W b1 A1) (h2 : Box W b2 A2) : S2R W B b1 A1 b2 A2 w2 :=
  ⟨h.1.trans (hb.mono (Nat.le_trans hB h.1.size)), fun j => (hb.cell (p := ⟨b1, j, none⟩) (Nat.lt_of_lt_of_le h1.1 h.1.size)).trans (h.2.1 j), fun j => (hb.cell (p := ⟨b2, j, none⟩) (Nat.lt_of_lt_of_le h2.1 h.1.size)).trans (h.2.2 j)⟩
theorem S2R.set {W w1 : World} {B b1 : Nat} {A1 : Array Value} {b2 : Nat} {A2 : Array Value} {p : Addr} {v : Value} (h : S2R W B b1 A1 b2 A2 w1) (hp : B ≤ p.block) (h1 : b1 < B) (h2 : b2 < B) : S2R W B b1 A1 b2 A2 (w1.setCell p v) := by
  have hb : Below B w1 (w1.setCell p v) := (Below.refl _ _).setCell hp v
  exact ⟨h.1.trans hb, fun j => (hb.cell (p := ⟨b1, j, none⟩) h1).trans (h.2.1 j), fun j => (hb.cell (p := ⟨b2, j, none⟩) h2).trans (h.2.2 j)⟩

/-- A slice over a new block. -/
theorem Sl.new (w : World) (A : Array Value) (t : TypeId) (n cap : Nat) (h : n ≤ cap) (hm : cap ≤ maxLen) : Sl (w.alloc (.cells A t)) (.slice (some ⟨w.heap.size, 0, none⟩) n cap) n A.toList :=
  ⟨_, _, rfl, h, hm, (fun h => by cases h), fun i x hx => ⟨_, _, rfl, by simpa using hx⟩⟩

theorem S2R.grown {W w1 w2 : World} {B b1 : Nat} {A1 : Array Value} {b2 : Nat} {A2 : Array Value} {row : Option Nat} (hg : w1.grownBy w2 row) (h : S2R W B b1 A1 b2 A2 w1) (hB : B ≤ W.heap.size) (h1 : Box W b1 A1) (h2 : Box W b2 A2)
    (hr : ∀ k, row = some k → B ≤ k ∧ k ≠ b1 ∧ k ≠ b2) : S2R W B b1 A1 b2 A2 w2 := by
  have l1 := Nat.lt_of_lt_of_le h1.1 h.1.size
  have l2 := Nat.lt_of_lt_of_le h2.1 h.1.size
  refine ⟨h.1.grown hg (Nat.le_trans hB h.1.size) (fun k e => (hr k e).1), fun j => ?_, fun j => ?_⟩
  · rw [World.cell?_of_block (w := w1) (hg.block b1 l1 (fun e => (hr b1 e.symm).2.1 rfl))]; exact h.2.1 j
  · rw [World.cell?_of_block (w := w1) (hg.block b2 l2 (fun e => (hr b2 e.symm).2.2 rfl))]; exact h.2.2 j
end Go.Proofs.YtfdaakghkhecgaaDoor
namespace Go.Proofs.YtfdaakghkhecgaaDoor
open Go.RowKit
namespace Tx
open _root_.Go.Proofs.YtfdaakghkhecgaaDoor.Nm
/-- the table that strconv reads -/
def Tb (w : World) : Prop := Lib.TabIs Tryd.prog w "internal/strconv.uint64pow10" .u64 Lib.pow10Tab
theorem Tb.ext {w w' : World} (h : Tb w) (hb : Below w.heap.size w w') : Tb w' := by
  cases hg : Tryd.prog.globalNamed "internal/strconv.uint64pow10" with
  | none => unfold Tb Lib.TabIs World.var? at h; rw [hg] at h; cases h
  | some g => exact Joins.tab_stays hg h hb (Nat.le_refl _)
/-- the library's own bound holds some number -/
def Ml (w : World) : Prop := ∃ m : Int, w.cell? ⟨0, 0, none⟩ = some (.int .i64 m)
theorem Ml.ext {w w' : World} (h : Ml w) (hb : Below w.heap.size w w') : Ml w' := by
  obtain ⟨m, hm⟩ := h
  exact ⟨m, (hb.cell (World.block_lt_of_cell? _ _ hm)).trans hm⟩
def stB (l : List UInt8) : ByteArray := ⟨l.toArray⟩
theorem stB_list (l : List UInt8) : (stB l).data.toList = l := rfl
theorem stB_self (s : ByteArray) : stB s.data.toList = s := by cases s; simp [stB]
theorem stB_size (l : List UInt8) : (stB l).size = l.length := by simp [stB, ByteArray.size]
theorem below_drewN' (w : World) (n : Nat) : Below w.heap.size w (w.drewN n) := below_drewN (Below.refl _ _) n
theorem itoa_at (n : Nat) (hn : n ≤ 9223372036854775807) (w : World) (ht : Tb w) : Calls Tryd.prog 17 #[.int .i64 (n : Int)] w fun e w' => e = .returned (.string (stB (decS n))) ∧ Below w.heap.size w w' := by
  refine (Tryd.strconv_Itoa (n : Int) (by omega) (by omega) w ht).mono ?_
  rintro e w' ⟨rfl, k, os, rfl⟩
  exact ⟨by rw [itoa_is, itoaS_nat]; rfl, Lib.below_grow _ _ (Nat.le_refl _) _ _⟩
theorem atoi_at (s : ByteArray) (h : Digs s.data.toList) (h0 : 0 < s.size) (hl : s.size ≤ 18) (w : World) : Calls Tryd.prog 21 #[.string s] w fun e w' => e = .returned (.tuple #[.int .i64 ((decv s.data.toList : Nat) : Int), .nilIface]) ∧ Below w.heap.size w w' := by
  have hne : s.data.toList ≠ [] := by
    intro e
    have : s.data.toList.length = s.size := Array.length_toList
    rw [e] at this; simp at this; omega
  refine (Tryd.strconv_Atoi s _ hl (atoi_digs h hne) w).mono ?_
  rintro e w' ⟨rfl, t, rfl⟩
  refine ⟨rfl, ?_, ?_, ?_, ?_, ?_⟩
  · simp [Lib.bytesWorld, World.freeze]; rfl
  · simp [Lib.bytesWorld, World.freeze]
  · simp [Lib.bytesWorld, World.freeze]; rfl
  · rw [Lib.bytesWorld_size]; omega
  · exact fun k hk => Lib.bytesWorld_at_old _ _ _ _ hk
theorem cut_is (c : UInt8) (l : List UInt8) : Lib.cut l [c] = ((cut1 c l).1, (cut1 c l).2.getD [], (cut1 c l).2.isSome) := by
  by_cases h : c ∈ l
  · obtain ⟨x, r, rfl, hx⟩ := mem_split h
    unfold Lib.cut
    rw [index_at hx, if_pos (by omega), cut1_app hx]
    simp
  · unfold Lib.cut
    rw [index_no h, if_neg (by decide), cut1_none h]
    rfl
theorem cut_at (s : ByteArray) (c : UInt8) (hs : s.size < 4294967281) (w : World) (hm : Ml w) : Calls Tryd.prog 9 #[.string s, .string ⟨#[c]⟩] w fun e w' => e = .returned (.tuple #[.string (stB (cut1 c s.data.toList).1), .string (stB ((cut1 c s.data.toList).2.getD [])), .bool (cut1 c s.data.toList).2.isSome]) ∧ Below w.heap.size w w' := by
  obtain ⟨m, hm⟩ := hm
  refine (Tryd.strings_Cut s ⟨#[c]⟩ m w hs hm).mono ?_
  rintro e w' ⟨rfl, n, rfl⟩
  refine ⟨?_, below_drewN' _ _⟩
  rw [show (⟨#[c]⟩ : ByteArray).data.toList = [c] from rfl, cut_is]
  rfl
theorem split_list (s : ByteArray) (c : UInt8) : Lib.splitB ⟨#[c]⟩ 0 (Lib.countB s ⟨#[c]⟩) s = (cutL c s.data.toList).map stB := by
  rw [← split_one, List.map_map]
  conv => lhs; rw [← List.map_id (Lib.splitB ⟨#[c]⟩ 0 (Lib.countB s ⟨#[c]⟩) s)]
  exact List.map_congr_left fun x _ => (stB_self x).symm
theorem cutL_len {c : UInt8} : ∀ {l : List UInt8}, ∀ x ∈ cutL c l, x.length ≤ l.length
  | [], x, hx => by simp [cutL] at hx; simp [hx]
  | b :: r, x, hx => by
    have ih := cutL_len (c := c) (l := r)
    unfold cutL at hx
    by_cases h : b = c
    · rw [if_pos h] at hx
      rcases List.mem_cons.1 hx with rfl | hx
      · simp
      · have := ih x hx; simp; omega
    · rw [if_neg h] at hx
      cases hc : cutL c r with
      | nil => exact absurd hc (cutL_ne c r)
      | cons y z =>
        rw [hc] at hx ih
        rcases List.mem_cons.1 hx with rfl | hx
        · have := ih y (by simp); simp; omega
        · have := ih x (List.mem_cons_of_mem _ hx); simp; omega
/-- the pieces of a text, as a slice of the call's own -/
theorem split_at (s : ByteArray) (c : UInt8) (hs : s.size < 4294967281) (w : World) (hm : Ml w) : Calls Tryd.prog 10 #[.string s, .string ⟨#[c]⟩] w fun e w' => ∃ a k, e = .returned (.slice a ((cutL c s.data.toList).map stB).length k) ∧ Sl w' (.slice a ((cutL c s.data.toList).map stB).length k) ((cutL c s.data.toList).map stB).length (strs ((cutL c s.data.toList).map stB)) ∧ Below w.heap.size w w' := by
  obtain ⟨m, hm⟩ := hm
  refine (Tryd.strings_Split s ⟨#[c]⟩ m w hs hm (Nat.le_refl 1)).mono ?_
  rintro e w' ⟨rfl, rfl⟩
  have hlen := Lib.splitB_all ⟨#[c]⟩ (Nat.le_refl 1) 0 _ s rfl
  rw [split_list] at hlen ⊢
  rw [← hlen]
  refine ⟨_, _, rfl, ?_, (Below.refl _ _).alloc (Nat.le_refl _) _⟩
  have h := Sl.new w ((cutL c s.data.toList).map stB |>.map Value.string).toArray 9 ((cutL c s.data.toList).map stB).length ((cutL c s.data.toList).map stB).length (Nat.le_refl _) (by
    have := Lib.countB_le ⟨#[c]⟩ (Nat.le_refl 1) s.size s (Nat.le_refl _)
    unfold maxLen; omega)
  simpa [strs] using h
theorem join_is (c : UInt8) : ∀ l : List (List UInt8), Lib.join l [c] = joinL c l
  | [] => rfl
  | [x] => Lib.join_one x [c]
  | x :: y :: r => by
    rw [Lib.join_cons, joinL, ← join_is c (y :: r), Lib.join_cons]
    simp [Lib.joinTail]
theorem joinL_len {c : UInt8} : ∀ {l : List (List UInt8)} {k : Nat}, (∀ x ∈ l, x.length ≤ k) → (joinL c l).length ≤ l.length * (k + 1)
  | [], _, _ => Nat.zero_le _
  | [x], k, h => by have := h x (by simp); simp [joinL]; omega
  | x :: y :: r, k, h => by
    have h1 := h x (by simp)
    have h2 := joinL_len (c := c) (l := y :: r) (k := k) (fun z hz => h z (List.mem_cons_of_mem _ hz))
    have e : joinL c (x :: y :: r) = x ++ c :: joinL c (y :: r) := rfl
    rw [e, List.length_append, List.length_cons, List.length_cons, Nat.succ_mul]
    omega
end Tx
end Go.Proofs.YtfdaakghkhecgaaDoor
namespace Go.Proofs.YtfdaakghkhecgaaDoor
open Go.RowKit
namespace Tx
open _root_.Go.Proofs.YtfdaakghkhecgaaDoor.Nm
/-- a number of a version, and whether it is one -/
def VnPost (l : List UInt8) (w : World) (e : Ending) (w' : World) : Prop := e = .returned (.tuple #[.int .i64 (((vnO l).getD 0 : Nat) : Int), .bool (vnO l).isSome]) ∧ Below w.heap.size w w'
theorem vn_no {l : List UInt8} (h : wholeB l = false ∨ 6 < l.length) : vnO l = none := by
  unfold vnO; rw [if_neg]; rintro ⟨h1, h2⟩; rcases h with h | h
  · rw [h1] at h; cases h
  · omega
theorem vn_yes {l : List UInt8} (h : wholeB l = true) (h6 : l.length ≤ 6) : vnO l = some (decv l) := if_pos ⟨h, h6⟩
set_option maxHeartbeats 2000000 in
theorem versionNumber_at (s : ByteArray) (hs : s.size ≤ maxLen) (w : World) : Calls Tryd.prog 11 #[.string s] w (VnPost s.data.toList w) := by
  have hs' := hs
  unfold maxLen at hs'
  have hl : s.data.toList.length = s.size := Array.length_toList
  by_cases hw : wholeB s.data.toList = true
  · have HW := Lib.hid hw
    by_cases h6 : s.size ≤ 6
    · have HV := Lib.hid (vn_yes hw (by omega))
      have hd := whole_iff.1 hw
      have h0 : 0 < s.size := by
        obtain ⟨_, c, r, e, _⟩ := hd
        rw [e] at hl; simp at hl; omega
      have HAT := Lib.hid (fun W9 => atoi_at s hd.1 h0 (by omega) W9)
      clear hw hd h0 hl
      go_enter Tryd.func11, Tryd.ntmps11
      go_wp2_with fail
      refine (value_whole_is s hs true HW.out _).mono ?_
      rintro e w' ⟨rfl, rfl⟩
      go_wp2_with fail
      refine (HAT.out _).mono ?_
      rintro e w2 ⟨rfl, hb2⟩
      have HB := Lib.hid hb2
      generalize decv s.data.toList = n at *
      clear hb2 HAT
      go_wp2_with fail
      go_quiet (fail)
      go_wp2
      exact bodyPost_ret (v := .tuple #[.int .i64 (n : Int), .bool true]) (by simp [results, Tryd.results11, go_sem]) rfl ⟨by rw [HV.out]; rfl, below_drewN HB.out nq⟩
    · have HV := Lib.hid (vn_no (l := s.data.toList) (.inr (by omega)))
      have h7 : (6 : Int) < (s.size : Int) := by omega
      clear hw hl h6
      go_enter Tryd.func11, Tryd.ntmps11
      go_wp2_with fail
      refine (value_whole_is s hs true HW.out _).mono ?_
      rintro e w' ⟨rfl, rfl⟩
      go_wp2
      exact bodyPost_ret (v := .tuple #[.int .i64 0, .bool false]) (by simp [results, Tryd.results11, go_sem]) rfl ⟨by rw [HV.out]; rfl, Below.refl _ _⟩
  · have hw' : wholeB s.data.toList = false := by simpa using hw
    have HV := Lib.hid (vn_no (l := s.data.toList) (.inl hw'))
    have HW := Lib.hid hw'
    clear hw hw' hl
    go_enter Tryd.func11, Tryd.ntmps11
    go_wp2_with fail
    refine (value_whole_is s hs false HW.out _).mono ?_
    rintro e w' ⟨rfl, rfl⟩
    go_wp2
    exact bodyPost_ret (v := .tuple #[.int .i64 0, .bool false]) (by simp [results, Tryd.results11, go_sem]) rfl ⟨by rw [HV.out]; rfl, Below.refl _ _⟩
end Tx
end Go.Proofs.YtfdaakghkhecgaaDoor
namespace Go.Proofs.YtfdaakghkhecgaaDoor
open Go.RowKit
namespace Nt
/-- the block b is a row of cells A -/
def RH (w : World) (b : Nat) (A : Array Value) (t : TypeId) : Prop := w.heap[b]? = some (.cells A t (0, 0))
theorem RH.lt {w : World} {b : Nat} {A : Array Value} {t : TypeId} (h : RH w b A t) : b < w.heap.size := (Array.getElem?_eq_some_iff.1 h).1
theorem RH.ext {w w' : World} {b : Nat} {A : Array Value} {t : TypeId} (h : RH w b A t) (hb : Below w.heap.size w w') : RH w' b A t := by
  unfold RH; rw [hb.block b h.lt]; exact h
theorem RH.cell {w : World} {b : Nat} {A : Array Value} {t : TypeId} (h : RH w b A t) (j : Nat) : w.cell? ⟨b, j, none⟩ = A[j]? := cell_of_row w b j A t _ h
theorem RH.fre {w : World} {b : Nat} {A : Array Value} {t : TypeId} (h : RH w b A t) (j : Nat) : w.frozen? ⟨b, j, none⟩ = false := by
  unfold RH at h
  simp [World.frozen?, h]
theorem RH.new (w : World) (A : Array Value) (t : TypeId) : RH (w.alloc (.cells A t)) w.heap.size A t := heap_alloc_last w _
theorem RH.row {w : World} {b : Nat} {A : Array Value} {t : TypeId} (h : RH w b A t) (A' : Array Value) : RH (w.setRow b A') b A' t := setRow_heap w b A A' t _ h
theorem RH.set {w : World} {b : Nat} {A : Array Value} {t : TypeId} (h : RH w b A t) (j : Nat) (v : Value) : RH (w.setCell ⟨b, j, none⟩ v) b (A.setIfInBounds j v) t := by
  rw [setCell_eq_setRow w b j A t _ v h]; exact h.row _
theorem RH.set_other {w : World} {b : Nat} {A : Array Value} {t : TypeId} (h : RH w b A t) {p : Addr} (hne : b ≠ p.block) (v : Value) : RH (w.setCell p v) b A t := by
  unfold RH World.setCell
  simp only [Array.getElem?_modify]
  rw [if_neg (fun e => hne e.symm)]; exact h
theorem RH.other {w : World} {b : Nat} {A : Array Value} {t : TypeId} (h : RH w b A t) {p : Addr} (hne : b ≠ p.block) (v : Value) : RH (w.setCell p v) b A t := h.set_other hne v
theorem RH.box {w : World} {b : Nat} {A : Array Value} {t : TypeId} (h : RH w b A t) : Box w b A := ⟨h.lt, fun j => h.cell j⟩
end Nt
open Nt (RH RH.cell RH.other)
theorem zs3 {w : World} {b : Nat} {t : TypeId} {a0 a1 a2 : Value} (h : RH w b #[a0, a1, a2] t) : w.cell? ⟨b, 0, none⟩ = some a0 ∧ w.cell? ⟨b, 1, none⟩ = some a1 ∧ w.cell? ⟨b, 2, none⟩ = some a2 := ⟨(h.cell 0).trans rfl, (h.cell 1).trans rfl, (h.cell 2).trans rfl⟩
theorem zs4 {w : World} {b : Nat} {t : TypeId} {a0 a1 a2 a3 : Value} (h : RH w b #[a0, a1, a2, a3] t) : w.cell? ⟨b, 0, none⟩ = some a0 ∧ w.cell? ⟨b, 1, none⟩ = some a1 ∧ w.cell? ⟨b, 2, none⟩ = some a2 ∧ w.cell? ⟨b, 3, none⟩ = some a3 := ⟨(h.cell 0).trans rfl, (h.cell 1).trans rfl, (h.cell 2).trans rfl, (h.cell 3).trans rfl⟩
theorem zzo {w : World} {b d j : Nat} {A : Array Value} {t : TypeId} {v : Value} (h : RH w b A t) (hne : b ≠ d) : RH (w.setCell ⟨d, j, none⟩ v) b A t := h.other hne v
theorem zzw {w w' : World} {n b j : Nat} {v : Value} (h : Below n w w') (hn : n ≤ b) : Below n w (w'.setCell ⟨b, j, none⟩ v) := h.setCell hn v
end Go.Proofs.YtfdaakghkhecgaaDoor
namespace Go.Proofs.YtfdaakghkhecgaaDoor
open Go.RowKit
namespace Tx
open _root_.Go.Proofs.YtfdaakghkhecgaaDoor.Nt (RH RH.cell RH.box RH.lt RH.new RH.ext RH.fre RH.set RH.other)
theorem cs_vr {w : World} {b o : Nat} {v : Value} {p : Addr} (hp : p.block ≠ b) : (w.setCell ⟨b, o, none⟩ v).cell? p = w.cell? p := World.cell?_setCell_other _ _ _ _ (fun e => hp (by rw [← e]))
theorem wp_vr1 {P : Program} {c : Code} {Q : Exit → Act → World → Prop} {a : Act} {w : World} {A : Array Value} {t : TypeId}
    (h : ∀ W, Below w.heap.size w W → RH W w.heap.size A t → c.wp P Q a W) : c.wp P Q a (w.alloc (.cells A t)) := h _ (ext_alloc _ _) (RH.new _ _ _)
def isS : Value → Bool
  | .string _ => true
  | _ => false
def NoS (A : Array Value) : Prop := ∀ (j : Nat) (u : Value), A[j]? = some u → isS u = false
theorem noS_all {A : Array Value} (h : A.all (fun u => !isS u) = true) : NoS A := fun j u hu => by
  have h1 := Array.all_eq_true_iff_forall_mem.1 h u (Array.mem_of_getElem? hu)
  simpa using h1
/-- a slice that reads as the texts l -/
def SlS (w : World) (a : Option Addr) (l : List ByteArray) (c : Nat) : Prop := Sl w (.slice a l.length c) l.length (strs l)
theorem SlS.ext {w w' : World} {a : Option Addr} {l : List ByteArray} {c : Nat} (h : SlS w a l c) (hb : Below w.heap.size w w') : SlS w' a l c := Sl.ext h hb
theorem SlS.far {w w' : World} {b : Nat} {A : Array Value} {a : Option Addr} {l : List ByteArray} {c : Nat} (h : SlS w a l c) (hA : Box w b A) (hn : NoS A) (hk : ∀ p : Addr, p.block ≠ b → w'.cell? p = w.cell? p) : SlS w' a l c := by
  obtain ⟨a', cap, hv, h1, h2, h0, h3⟩ := h
  refine ⟨a', cap, hv, h1, h2, h0, fun i x hx => ?_⟩
  obtain ⟨b', o, ha, hc⟩ := h3 i x hx
  refine ⟨b', o, ha, ?_⟩
  rw [hk _ (fun e => ?_)]
  · exact hc
  · have e' : b' = b := e
    subst e'
    rw [hA.2] at hc
    have h4 := hn _ _ hc
    simp only [strs, List.getElem?_map] at hx
    cases hl : l[i]? with
    | none => rw [hl] at hx; cases hx
    | some s => rw [hl] at hx; injection hx with hx; subst hx; cases h4
theorem SlS.at {w : World} {a : Option Addr} {l : List ByteArray} {c k : Nat} (h : SlS w a l c) (hk : k < l.length) : ∃ b o, a = some ⟨b, o, none⟩ ∧ w.cell? ⟨b, o + k, none⟩ = some (.string l[k]) := Sl.addr h (strs_get hk)
theorem rep_of {w : World} {x y z : Int} {a : Option Addr} {l : List ByteArray} {c : Nat} (h : SlS w a l c) (hs : ∀ s ∈ l, s.size ≤ maxLen) : RepVer w ⟨x, y, z, l⟩ [.int .i64 x, .int .i64 y, .int .i64 z, .slice a l.length c] := ⟨a, c, rfl, h, hs⟩
theorem rep_nil {w : World} {x y z : Int} : RepVer w ⟨x, y, z, []⟩ [.int .i64 x, .int .i64 y, .int .i64 z, .slice none 0 0] := ⟨none, 0, rfl, Sl.nil w, fun _ h => by cases h⟩
end Tx
end Go.Proofs.YtfdaakghkhecgaaDoor
