/- Quantile of package metric: what it returns, and what it leaves. awake of package burgeelaw8. Printed by gen_lawadd.py. -/
import Derived.Test.YtlbnjgnbpiidaaaGreatDoorProg
import Derived.Test.YtlbnjgnbpiidaaaGreatDoorB800
import Derived.Test.YtlbnjgnbpiidaaaGreatDoorShelf
import Derived.Sort.OwnSortedInts
import Derived.Deep.Cut
namespace Go.Proofs.YtlbnjgnbpiidaaaGreatDoor
open Go.RowKit Go.Sort
namespace Qt

theorem ret_two {k k' : IntKind} {a b c : Int} (h : a = b) : Ending.returned (.tuple #[.int k a, .int k' c]) = .returned (.tuple #[.int k b, .int k' c]) := by rw [h]
/-- numbers as cells -/
def icells (l : List Int) : List Value := l.map (Value.int .i64)
theorem icells_get {l : List Int} {i : Nat} (h : i < l.length) : (icells l)[i]? = some (.int .i64 l[i]) := by simp [icells, h]
def sortI (l : List Int) : List Int := l.mergeSort fun x y => decide (x ≤ y)
theorem sortI_length (l : List Int) : (sortI l).length = l.length := List.length_mergeSort _
/-- the place of a quantile -/
def rankQ (p : Nat) : Nat := (p + 999) / 1000 - 1
def quantF (l : List Int) (mille : Int) : Int := if l.length = 0 then 9 else if 20000 < l.length then 2 else if 1 ≤ mille ∧ mille ≤ 1000 then 0 else 1
def quantV (l : List Int) (mille : Int) : Int := if quantF l mille = 0 then (sortI l).getD (rankQ (l.length * mille.toNat)) 0 else 0
theorem rankQ_lt {n m : Nat} (h0 : 0 < n) (h1 : 1 ≤ m) (h2 : m ≤ 1000) : rankQ (n * m) < n := by
  unfold rankQ
  have h3 : n * m ≤ n * 1000 := Nat.mul_le_mul_left _ h2
  have h4 : n * 1 ≤ n * m := Nat.mul_le_mul_left _ h1
  omega

theorem sl_cells {w : World} {a : Option Addr} {n c : Nat} {cs : List Value} (h : Sl w (.slice a n c) n cs) (h0 : 0 < cs.length) : ∃ b o, a = some ⟨b, o, none⟩ ∧ ∀ i x, cs[i]? = some x → w.cell? ⟨b, o + i, none⟩ = some x := by
  obtain ⟨a', cap, hv, _, _, _, h3⟩ := h
  cases hv
  obtain ⟨b, o, rfl, _⟩ := h3 0 _ (List.getElem?_eq_getElem h0)
  refine ⟨b, o, rfl, fun i x hx => ?_⟩
  obtain ⟨b', o', e, hc⟩ := h3 i x hx
  cases e
  exact hc

theorem clone_ints (l : List Int) (hl : l.length ≤ 20000) (b o c : Nat) (w : World) (hs : ∀ i x, (icells l)[i]? = some x → w.cell? ⟨b, o + i, none⟩ = some x) :
    Calls Tryz.prog 65 #[.slice (some ⟨b, o, none⟩) l.length c] w fun e w' => ∃ v', e = .returned v' ∧ w'.ownsRow w.heap.size 3 1 v' l.length (icells l) ∧ v' ≠ .slice none 0 0 ∧ Below w.heap.size w w' := by
  refine (Tryz.slices_Clone_int b o l.length c l w (Nat.le_refl _) (by omega) fun j hj => ?_).mono ?_
  · rw [hs j _ (icells_get hj)]; simp [List.getD, List.getElem?_eq_getElem hj]
  · rintro e w' ⟨v', rfl, h1, h2, h3⟩
    refine ⟨v', rfl, ?_, h2, h3⟩
    rw [List.take_of_length_le (Nat.le_refl _)] at h1
    exact h1

theorem sort_ints (base : Nat) (l : List Int) (hl : l.length ≤ 20000) (g cap : Nat) (w : World) (hown : w.ownsRow base 3 1 (.slice (some ⟨g, 0, none⟩) l.length cap) l.length (icells l)) :
    Calls Tryz.prog 66 #[.slice (some ⟨g, 0, none⟩) l.length cap] w fun e w' => e = .returned (.tuple #[]) ∧ w'.ownsRow base 3 1 (.slice (some ⟨g, 0, none⟩) l.length cap) l.length (icells (sortI l)) ∧ w.grownBy w' (some g) := by
  rcases hown.2 with ⟨hnil, _⟩ | ⟨g', cap', cur, hv, hbase, hb, h1, h2, h3, h4⟩
  · cases hnil
  cases hv
  refine (Tryz.slices_Sort_int g 0 cap l w (holds_of_blockI hb (by simpa [icells] using h4)) (Array.getElem?_eq_some_iff.1 hb).1 (by omega)).mono ?_
  rintro e w' ⟨rfl, n, os, rfl⟩
  exact ⟨rfl, ownsRow_sortedI (sortI_length l) hbase hb h1 h2 h3, grownBy_sortedI _⟩

theorem within_yes (n low high : Int) (h1 : low ≤ n) (h2 : n ≤ high) (w : World) : Calls Tryz.prog 64 #[.int .i64 n, .int .i64 low, .int .i64 high] w fun e w' => e = .returned (.bool true) ∧ w = w' := by
  go_enter Tryz.func64, Tryz.ntmps64
  go_wp2
  go_ret
  exact ⟨rfl, rfl⟩
theorem within_no (n low high : Int) (h : n < low ∨ high < n) (w : World) : Calls Tryz.prog 64 #[.int .i64 n, .int .i64 low, .int .i64 high] w fun e w' => e = .returned (.bool false) ∧ w = w' := by
  by_cases h1 : n < low
  · clear h
    go_enter Tryz.func64, Tryz.ntmps64
    go_wp2
    go_ret
    exact ⟨rfl, rfl⟩
  · have h2 : decide (n ≤ high) = false := decide_eq_false (by omega)
    have h3 : low ≤ n := by omega
    clear h h1
    go_enter Tryz.func64, Tryz.ntmps64
    go_wp2
    go_ret
    exact ⟨rfl, rfl⟩

set_option maxHeartbeats 1000000 in
theorem quantile_ok (l : List Int) (b o c m : Nat) (w : World) (_hs : Sl w (.slice (some ⟨b, o, none⟩) l.length c) l.length (icells l)) (h0 : 0 < l.length) (hl : l.length ≤ 20000) (h1 : 1 ≤ m) (h2 : m ≤ 1000)
    (hc : ∀ i x, (icells l)[i]? = some x → w.cell? ⟨b, o + i, none⟩ = some x) :
    Calls Tryz.prog 42 #[.slice (some ⟨b, o, none⟩) l.length c, .int .i64 m] w fun e w' => e = .returned (.tuple #[.int .i64 ((sortI l).getD (rankQ (l.length * m)) 0), .int .i64 0]) ∧ Below w.heap.size w w' := by
  have HC := Lib.hid hc
  have HR := Lib.hid (rankQ_lt h0 h1 h2)
  have hp1 : l.length * m ≤ 20000000 := by
    have := Nat.mul_le_mul hl h2; omega
  have hp0 : 1 ≤ l.length * m := Nat.mul_pos h0 h1
  obtain ⟨p, hp⟩ : ∃ p, l.length * m = p := ⟨_, rfl⟩
  have hpi : (l.length : Int) * (m : Int) = (p : Int) := by rw [← hp]; push_cast; rfl
  rw [hp] at hp1 hp0
  rw [hp]
  have HR2 : Hid (rankQ p < l.length) := by have := HR.out; rw [hp] at this; exact this
  clear hc hp HR
  go_enter Tryz.func42, Tryz.ntmps42
  go_wp2_with fail
  refine (within_yes _ _ _ (by omega) (by omega) _).mono ?_
  rintro e w' ⟨rfl, rfl⟩
  go_wp2_with fail
  refine (clone_ints l hl b o c w HC.out).mono ?_
  rintro e w1 ⟨v', rfl, hown, hne, hb1⟩
  rcases hown.2 with ⟨hnil, _⟩ | ⟨g, cap, cur, rfl, hbase, hb, _, _, _, _⟩
  · exact absurd hnil hne
  clear hb hne
  go_wp2_with fail
  refine (sort_ints w.heap.size l hl g cap w1 hown).mono ?_
  rintro e w2 ⟨rfl, hown2, hg2⟩
  have hb2 := hb1.grown hg2 hb1.size (fun k e => by cases e; exact hbase)
  have hlt : rankQ p < (sortI l).length := by rw [sortI_length]; exact HR2.out
  obtain ⟨g', o', eg, HG⟩ := sl_cells (Sl.ofOwn hown2) (by simp [icells]; omega)
  cases eg
  have hcell := HG (rankQ p) _ (icells_get hlt)
  have hgd : (sortI l)[rankQ p] = (sortI l).getD (rankQ p) 0 := by simp [List.getD, List.getElem?_eq_getElem hlt]
  rw [hgd] at hcell
  obtain ⟨x, HV⟩ : ∃ x, Hid ((sortI l).getD (rankQ p) 0 = x) := ⟨_, rfl⟩
  rw [HV.out] at hcell
  rw [Nat.zero_add] at hcell
  have hcell2 : w2.cell? ⟨g, (p + 999) / 1000 - 1, none⟩ = some (.int .i64 x) := hcell
  rw [show rankQ p = (p + 1000 - 1) / 1000 - 1 from rfl] at hcell
  have hr : (p + 1000 - 1) / 1000 - 1 < l.length := HR2.out
  clear HG hlt hgd
  go_wp2
  go_ret2
  exact ⟨ret_two HV.out.symm, hb2⟩

theorem metric_Quantile (l : List Int) (a : Option Addr) (c : Nat) (mille : Int) (w : World) (hs : Sl w (.slice a l.length c) l.length (icells l)) :
    Calls Tryz.prog 42 #[.slice a l.length c, .int .i64 mille] w fun e w' => e = .returned (.tuple #[.int .i64 (quantV l mille), .int .i64 (quantF l mille)]) ∧ Below w.heap.size w w' := by
  by_cases h0 : l.length = 0
  · have hf : quantF l mille = 9 := by simp [quantF, h0]
    have hv : quantV l mille = 0 := by simp [quantV, hf]
    rw [hf, hv, h0]
    clear hf hv
    go_enter Tryz.func42, Tryz.ntmps42
    go_wp2
    go_ret2
    exact ⟨rfl, Below.refl _ _⟩
  by_cases h1 : 20000 < l.length
  · have hf : quantF l mille = 2 := by simp [quantF, h0, h1]
    have hv : quantV l mille = 0 := by simp [quantV, hf]
    have h0' : 0 < l.length := by omega
    have hz : ((l.length : Int) == 0) = false := beq_eq_false_iff_ne.2 (by omega)
    rw [hf, hv]
    clear hf hv h0
    go_enter Tryz.func42, Tryz.ntmps42
    go_wp2
    go_ret2
    exact ⟨rfl, Below.refl _ _⟩
  by_cases h2 : 1 ≤ mille ∧ mille ≤ 1000
  · have hf : quantF l mille = 0 := by simp [quantF, h0, h1, h2]
    have hv : quantV l mille = (sortI l).getD (rankQ (l.length * mille.toNat)) 0 := by simp [quantV, hf]
    rw [hf, hv]
    obtain ⟨b, o, rfl, hc⟩ := sl_cells hs (by simp [icells]; omega)
    have := quantile_ok l b o c mille.toNat w hs (by omega) (by omega) (by omega) (by omega) hc
    rw [Int.toNat_of_nonneg (by omega)] at this
    exact this
  · have hf : quantF l mille = 1 := by simp [quantF, h0, h1, h2]
    have hv : quantV l mille = 0 := by simp [quantV, hf]
    have h0' : 0 < l.length := by omega
    have hz : ((l.length : Int) == 0) = false := beq_eq_false_iff_ne.2 (by omega)
    have H2 := Lib.hid h2
    rw [hf, hv]
    clear hf hv h0 h2
    go_enter Tryz.func42, Tryz.ntmps42
    go_wp2_with fail
    refine (within_no _ _ _ (by have := H2.out; omega) _).mono ?_
    rintro e w' ⟨rfl, rfl⟩
    go_wp2
    go_ret2
    exact ⟨rfl, Below.refl _ _⟩
end Qt
end Go.Proofs.YtlbnjgnbpiidaaaGreatDoor
namespace Go.Proofs.YtlbnjgnbpiidaaaGreatDoor
open Go.RowKit
theorem awake8_s : Qt.sortI [4, 1, 3] = [1, 3, 4] := by
 unfold Qt.sortI
 simp [List.mergeSort, List.MergeSort.Internal.splitInTwo]
theorem awake8_q : Qt.quantV [4, 1, 3] 500 = 3 ∧ Qt.quantF [4, 1, 3] 500 = 0 := by
 unfold Qt.quantV
 rw [awake8_s]
 decide
theorem awake8_at (w : World) : Calls Tryz.prog 12 #[] w fun e w' => e = .returned (.bool true) ∧ Below w.heap.size w w' := by
 have HP := Lib.hid awake8_q
 go_enter Tryz.func12, Tryz.ntmps12
 go_wp2_with fail
 refine (Qt.metric_Quantile [4, 1, 3] (some ⟨w.heap.size, 0, none⟩) 3 500 _ (Sl.new w #[.int .i64 4, .int .i64 1, .int .i64 3] _ 3 3 (by omega) (by decide))).mono ?_
 rintro e w1 ⟨rfl, hb⟩
 rw [HP.out.1, HP.out.2]
 have hbw := ext_trans (ext_alloc w _) hb
 clear hb
 go_wp2
 go_ret
 exact ⟨rfl, hbw⟩
end Go.Proofs.YtlbnjgnbpiidaaaGreatDoor
