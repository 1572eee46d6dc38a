/- How the arguments of a law, read as data, lie in memory: slices of whatever elements, field by field. Plain: the tails of a binomial, and the ranks between which a quantile lies. No program stands in it. Pairs of package decide: two rows of the call's own that grow, in an array of two. Quantile of package metric: what it returns, and what it leaves. Plain: what Between returns. No program stands in it. -/
import Derived.Test.YtiieckboccbhhaaGreatDoorB900
import Derived.ChangeArms
import Derived.DataReads
import Derived.SizedLaws
import Derived.Test.YtiieckboccbhhaaGreatDoorB940
import Derived.Test.YtiieckboccbhhaaGreatDoorB934
import Derived.Test.YtiieckboccbhhaaGreatDoorProg
import Derived.Test.YtiieckboccbhhaaGreatDoorB904
import Derived.Maps.AppendAt
import Derived.Deep.RegionLaw
import Derived.Deep.Cut
import Derived.Deep.QuietTactic
import Derived.BigQuiet
import Derived.BigRegion
import Derived.IntWalk
import Derived.Test.YtiieckboccbhhaaGreatDoorShelf
import Derived.Sort.OwnSortedInts
import Derived.Test.YtiieckboccbhhaaGreatDoorB902
import Derived.Test.YtiieckboccbhhaaGreatDoorB903
import Derived.Test.YtiieckboccbhhaaGreatDoorB905
import Derived.Test.YtiieckboccbhhaaGreatDoorB906
import Derived.Test.YtiieckboccbhhaaGreatDoorB907
import Derived.Test.YtiieckboccbhhaaGreatDoorB908
import Derived.Test.YtiieckboccbhhaaGreatDoorB909
import Derived.Test.YtiieckboccbhhaaGreatDoorB912
import Derived.Test.YtiieckboccbhhaaGreatDoorB913
import Derived.Test.YtiieckboccbhhaaGreatDoorB914
import Derived.Test.YtiieckboccbhhaaGreatDoorB922
import Derived.Test.YtiieckboccbhhaaGreatDoorB925
import Derived.Test.YtiieckboccbhhaaGreatDoorB915
import Derived.Test.YtiieckboccbhhaaGreatDoorB916
import Derived.Test.YtiieckboccbhhaaGreatDoorB917
import Derived.Test.YtiieckboccbhhaaGreatDoorB918
import Derived.Test.YtiieckboccbhhaaGreatDoorB919
import Derived.Test.YtiieckboccbhhaaGreatDoorB920
import Derived.Test.YtiieckboccbhhaaGreatDoorB921
import Derived.Test.YtiieckboccbhhaaGreatDoorB923
import Derived.Test.YtiieckboccbhhaaGreatDoorB924
import Derived.Test.YtiieckboccbhhaaGreatDoorB932
import Derived.Test.YtiieckboccbhhaaGreatDoorB933
import Derived.Test.YtiieckboccbhhaaGreatDoorB930
import Derived.Test.YtiieckboccbhhaaGreatDoorB910
import Derived.Test.YtiieckboccbhhaaGreatDoorB935
import Derived.Test.YtiieckboccbhhaaGreatDoorB936
namespace Go.Proofs.YtiieckboccbhhaaGreatDoor
open Go.RowKit

theorem addr_of_cell {w : World} {a : Addr} {v : Value} (h : w.cell? a = some v) : a = ⟨a.block, a.off, none⟩ := by
  cases a with | mk b o s =>
  cases s with
  | none => rfl
  | some k =>
    exfalso
    unfold World.cell? at h
    simp only at h
    split at h <;> simp at h

theorem add_add_none (b o i j : Nat) : ((⟨b, o, none⟩ : Addr).add i).add j = ⟨b, o + (i + j), none⟩ := by
  rw [add_spot, add_spot, Nat.add_assoc]

/-- The elements of a slice that is read, one after the other, out of a reading of each. -/
theorem elems_reps {α : Type} {R : α → List Value → Prop} {sz : Nat} (hs : ∀ x c, R x c → c.length = sz) (f : Nat → List Value) :
    ∀ (n : Nat), (∀ i, i < n → ∃ x, R x (f i)) → ∃ l : List α, l.length = n ∧ Reps R l ((List.range n).flatMap f) ∧ ∀ i, i < n → ∀ j u, (f i)[j]? = some u → ((List.range n).flatMap f)[i * sz + j]? = some u
  | 0, _ => ⟨[], rfl, rfl, fun i h => by omega⟩
  | n + 1, h => by
    obtain ⟨l, hl, hr, hg⟩ := elems_reps hs f n (fun i hi => h i (by omega))
    obtain ⟨x, hx⟩ := h n (by omega)
    have hlen := Reps.length hs hr
    have happ : ∀ {l : List α} {cs : List Value}, Reps R l cs → Reps R (l ++ [x]) (cs ++ f n) := by
      intro l
      induction l with
      | nil => intro cs hc; cases hc; exact ⟨f n, [], by simp, hx, rfl⟩
      | cons y l ih =>
        rintro cs ⟨c, r, rfl, h1, h2⟩
        exact ⟨c, r ++ f n, by simp, h1, ih h2⟩
    have hfm : (List.range (n + 1)).flatMap f = (List.range n).flatMap f ++ f n := by
      rw [List.range_succ, List.flatMap_append]; simp
    refine ⟨l ++ [x], by simp [hl], by rw [hfm]; exact happ hr, fun i hi j u hu => ?_⟩
    rw [hfm]
    by_cases hin : i < n
    · have := hg i hin j u hu
      rw [List.getElem?_append_left (List.getElem?_eq_some_iff.1 this).1]; exact this
    · have : i = n := by omega
      subst this
      rw [hl] at hlen
      rw [List.getElem?_append_right (by omega), ← hu]
      congr 1; omega

/-- A slice that is read as data, out of how its elements are read. -/
theorem read_slice {H : Type} {enc : TypeId × Value → H} {P : Program} {W : World} {spare : Nat → Bool} {held : Bool} {α : Type} {R : α → List Value → Prop} {sz : Nat} (hs : ∀ x c, R x c → c.length = sz)
    {t e : TypeId} {fuel : Nat} {cs : List Value} {x : DataW H × List MemPlace} (ht : P.underlying t = some (.slice e)) (hC : P.cellsOf e = sz) (hsz : 0 < sz)
    (hel : ∀ n cs' y, n < fuel → DataW.trod enc P W 0 spare held n e cs' = some y → ∃ a, R a cs')
    (h : DataW.trod enc P W 0 spare held fuel t cs = some x) : ∃ (a : Option Addr) (l : List α) (cap : Nat) (cells : List Value), cs = [.slice a l.length cap] ∧ Sl W (.slice a l.length cap) l.length cells ∧ Reps R l cells := by
  rcases DataW.trod_slice ht h with ⟨rfl, _⟩ | ⟨a, len, cap, elems, rest, n, hn, rfl, hx, hb, hl, hm, hlen, hel', _⟩
  · exact ⟨none, [], 0, [], rfl, Sl.nil W, rfl⟩
  · rw [hC] at hel'
    have hget : ∀ i, i < len → ∃ c, (∀ j u, c[j]? = some u → W.cell? ((a.add (i * sz)).add j) = some u) ∧ ∃ y, R y c := by
      intro i hi
      have h1 := hel' i hi
      have hi' : i < elems.length := by omega
      rw [List.getElem?_eq_getElem hi'] at h1
      obtain ⟨c, hc, htr⟩ := Option.bind_eq_some_iff.1 h1
      obtain ⟨_, hcl, hat⟩ := World.cells?_some hc
      refine ⟨c, fun j u hu => ?_, hel n c _ (by omega) htr⟩
      rw [hat j (by have := (List.getElem?_eq_some_iff.1 hu).1; omega)]; exact hu
    have hget' : ∀ i, ∃ c, i < len → (∀ j u, c[j]? = some u → W.cell? ((a.add (i * sz)).add j) = some u) ∧ ∃ y, R y c := by
      intro i
      by_cases hi : i < len
      · obtain ⟨c, hc⟩ := hget i hi; exact ⟨c, fun _ => hc⟩
      · exact ⟨[], fun h => (hi h).elim⟩
    obtain ⟨f, hf⟩ := Classical.axiomOfChoice hget'
    obtain ⟨l, hll, hr, hg⟩ := elems_reps hs f len (fun i hi => (hf i hi).2)
    refine ⟨some a, l, cap, _, by rw [hll], ⟨_, _, rfl, by omega, hm, (fun h => by cases h), fun i u hu => ?_⟩, hr⟩
    have hrl := Reps.length hs hr
    have hi : i < len * sz := by have := (List.getElem?_eq_some_iff.1 hu).1; rw [hll] at hrl; omega
    have hid : i / sz < len := Nat.div_lt_of_lt_mul (by rw [Nat.mul_comm]; exact hi)
    obtain ⟨y, hy⟩ := (hf _ hid).2
    have hfl := hs _ _ hy
    have hj : i % sz < (f (i / sz)).length := by rw [hfl]; exact Nat.mod_lt _ hsz
    have h2 := hg _ hid _ _ (List.getElem?_eq_getElem hj)
    rw [Nat.div_add_mod' i sz, hu] at h2
    have hcell := (hf _ hid).1 _ _ (List.getElem?_eq_getElem hj)
    have h0 : 0 < len := Nat.lt_of_le_of_lt (Nat.zero_le _) hid
    obtain ⟨y0, hy0⟩ := (hf 0 h0).2
    have hj0 : 0 < (f 0).length := by rw [hs _ _ hy0]; exact hsz
    have hc0 := (hf 0 h0).1 _ _ (List.getElem?_eq_getElem hj0)
    rw [Nat.zero_mul] at hc0
    have ha : a = ⟨a.block, a.off, none⟩ := by
      have e : (a.add 0).add 0 = a := by simp [Addr.add]
      rw [e] at hc0
      exact addr_of_cell hc0
    refine ⟨a.block, a.off, by rw [← ha], ?_⟩
    rw [ha, add_add_none, Nat.div_add_mod' i sz] at hcell
    rw [hcell, Option.some.inj h2]

theorem i64ok_of {n : Int} (h : (Lit.int .i64 n).wf = true) : i64ok n := by
  simpa [Lit.wf, IntKind.min, IntKind.max, IntKind.signed, IntKind.bits, i64ok] using h
end Go.Proofs.YtiieckboccbhhaaGreatDoor
namespace Go.Proofs.YtiieckboccbhhaaGreatDoor
namespace Nm
theorem lowV_le (n m : Nat) (h : Rat) : ∀ j, lowV n m h j ≤ j
  | 0 => Nat.le_refl _
  | j + 1 => by
    unfold lowV
    by_cases e : tailQ n m (j + 1) ≤ h
    · rw [if_pos e]; exact Nat.le_refl _
    · rw [if_neg e]; exact Nat.le_trans (lowV_le n m h j) (Nat.le_succ j)
end Nm
end Go.Proofs.YtiieckboccbhhaaGreatDoor
namespace Go.Proofs.YtiieckboccbhhaaGreatDoor
open Go.RowKit

def icells (l : List Int) : List Value := l.map (Value.int .i64)
end Go.Proofs.YtiieckboccbhhaaGreatDoor
namespace Go.Proofs.YtiieckboccbhhaaGreatDoor
open Go.RowKit Go.Sort
namespace Qt

theorem ret_two {k k' : IntKind} {a b c : Int} (h : a = b) : Ending.returned (.tuple #[.int k a, .int k' c]) = .returned (.tuple #[.int k b, .int k' c]) := by rw [h]
/-- numbers as cells -/
def icells (l : List Int) : List Value := l.map (Value.int .i64)
theorem icells_get {l : List Int} {i : Nat} (h : i < l.length) : (icells l)[i]? = some (.int .i64 l[i]) := by simp [icells, h]
def sortI (l : List Int) : List Int := l.mergeSort fun x y => decide (x ≤ y)
theorem sortI_length (l : List Int) : (sortI l).length = l.length := List.length_mergeSort _
/-- the place of a quantile -/
def rankQ (p : Nat) : Nat := (p + 999) / 1000 - 1
def quantF (l : List Int) (mille : Int) : Int := if l.length = 0 then 9 else if 20000 < l.length then 2 else if 1 ≤ mille ∧ mille ≤ 1000 then 0 else 1
def quantV (l : List Int) (mille : Int) : Int := if quantF l mille = 0 then (sortI l).getD (rankQ (l.length * mille.toNat)) 0 else 0
theorem rankQ_lt {n m : Nat} (h0 : 0 < n) (h1 : 1 ≤ m) (h2 : m ≤ 1000) : rankQ (n * m) < n := by
  unfold rankQ
  have h3 : n * m ≤ n * 1000 := Nat.mul_le_mul_left _ h2
  have h4 : n * 1 ≤ n * m := Nat.mul_le_mul_left _ h1
  omega

theorem sl_cells {w : World} {a : Option Addr} {n c : Nat} {cs : List Value} (h : Sl w (.slice a n c) n cs) (h0 : 0 < cs.length) : ∃ b o, a = some ⟨b, o, none⟩ ∧ ∀ i x, cs[i]? = some x → w.cell? ⟨b, o + i, none⟩ = some x := by
  obtain ⟨a', cap, hv, _, _, _, h3⟩ := h
  cases hv
  obtain ⟨b, o, rfl, _⟩ := h3 0 _ (List.getElem?_eq_getElem h0)
  refine ⟨b, o, rfl, fun i x hx => ?_⟩
  obtain ⟨b', o', e, hc⟩ := h3 i x hx
  cases e
  exact hc

theorem clone_ints (l : List Int) (hl : l.length ≤ 20000) (b o c : Nat) (w : World) (hs : ∀ i x, (icells l)[i]? = some x → w.cell? ⟨b, o + i, none⟩ = some x) :
    Calls Tryz.prog 37 #[.slice (some ⟨b, o, none⟩) l.length c] w fun e w' => ∃ v', e = .returned v' ∧ w'.ownsRow w.heap.size 3 1 v' l.length (icells l) ∧ v' ≠ .slice none 0 0 ∧ Below w.heap.size w w' := by
  refine (Tryz.slices_Clone_int b o l.length c l w (Nat.le_refl _) (by omega) fun j hj => ?_).mono ?_
  · rw [hs j _ (icells_get hj)]; simp [List.getD, List.getElem?_eq_getElem hj]
  · rintro e w' ⟨v', rfl, h1, h2, h3⟩
    refine ⟨v', rfl, ?_, h2, h3⟩
    rw [List.take_of_length_le (Nat.le_refl _)] at h1
    exact h1

theorem sort_ints (base : Nat) (l : List Int) (hl : l.length ≤ 20000) (g cap : Nat) (w : World) (hown : w.ownsRow base 3 1 (.slice (some ⟨g, 0, none⟩) l.length cap) l.length (icells l)) :
    Calls Tryz.prog 38 #[.slice (some ⟨g, 0, none⟩) l.length cap] w fun e w' => e = .returned (.tuple #[]) ∧ w'.ownsRow base 3 1 (.slice (some ⟨g, 0, none⟩) l.length cap) l.length (icells (sortI l)) ∧ w.grownBy w' (some g) := by
  rcases hown.2 with ⟨hnil, _⟩ | ⟨g', cap', cur, hv, hbase, hb, h1, h2, h3, h4⟩
  · cases hnil
  cases hv
  refine (Tryz.slices_Sort_int g 0 cap l w (holds_of_blockI hb (by simpa [icells] using h4)) (Array.getElem?_eq_some_iff.1 hb).1 (by omega)).mono ?_
  rintro e w' ⟨rfl, n, os, rfl⟩
  exact ⟨rfl, ownsRow_sortedI (sortI_length l) hbase hb h1 h2 h3, grownBy_sortedI _⟩

theorem within_yes (n low high : Int) (h1 : low ≤ n) (h2 : n ≤ high) (w : World) : Calls Tryz.prog 17 #[.int .i64 n, .int .i64 low, .int .i64 high] w fun e w' => e = .returned (.bool true) ∧ w = w' := by
  go_enter Tryz.func17, Tryz.ntmps17
  go_wp2
  go_ret
  exact ⟨rfl, rfl⟩
theorem within_no (n low high : Int) (h : n < low ∨ high < n) (w : World) : Calls Tryz.prog 17 #[.int .i64 n, .int .i64 low, .int .i64 high] w fun e w' => e = .returned (.bool false) ∧ w = w' := by
  by_cases h1 : n < low
  · clear h
    go_enter Tryz.func17, Tryz.ntmps17
    go_wp2
    go_ret
    exact ⟨rfl, rfl⟩
  · have h2 : decide (n ≤ high) = false := decide_eq_false (by omega)
    have h3 : low ≤ n := by omega
    clear h h1
    go_enter Tryz.func17, Tryz.ntmps17
    go_wp2
    go_ret
    exact ⟨rfl, rfl⟩

set_option maxHeartbeats 1000000 in
theorem quantile_ok (l : List Int) (b o c m : Nat) (w : World) (_hs : Sl w (.slice (some ⟨b, o, none⟩) l.length c) l.length (icells l)) (h0 : 0 < l.length) (hl : l.length ≤ 20000) (h1 : 1 ≤ m) (h2 : m ≤ 1000)
    (hc : ∀ i x, (icells l)[i]? = some x → w.cell? ⟨b, o + i, none⟩ = some x) :
    Calls Tryz.prog 13 #[.slice (some ⟨b, o, none⟩) l.length c, .int .i64 m] w fun e w' => e = .returned (.tuple #[.int .i64 ((sortI l).getD (rankQ (l.length * m)) 0), .int .i64 0]) ∧ Below w.heap.size w w' := by
  have HC := Lib.hid hc
  have HR := Lib.hid (rankQ_lt h0 h1 h2)
  have hp1 : l.length * m ≤ 20000000 := by
    have := Nat.mul_le_mul hl h2; omega
  have hp0 : 1 ≤ l.length * m := Nat.mul_pos h0 h1
  obtain ⟨p, hp⟩ : ∃ p, l.length * m = p := ⟨_, rfl⟩
  have hpi : (l.length : Int) * (m : Int) = (p : Int) := by rw [← hp]; push_cast; rfl
  rw [hp] at hp1 hp0
  rw [hp]
  have HR2 : Hid (rankQ p < l.length) := by have := HR.out; rw [hp] at this; exact this
  clear hc hp HR
  go_enter Tryz.func13, Tryz.ntmps13
  go_wp2_with fail
  refine (within_yes _ _ _ (by omega) (by omega) _).mono ?_
  rintro e w' ⟨rfl, rfl⟩
  go_wp2_with fail
  refine (clone_ints l hl b o c w HC.out).mono ?_
  rintro e w1 ⟨v', rfl, hown, hne, hb1⟩
  rcases hown.2 with ⟨hnil, _⟩ | ⟨g, cap, cur, rfl, hbase, hb, _, _, _, _⟩
  · exact absurd hnil hne
  clear hb hne
  go_wp2_with fail
  refine (sort_ints w.heap.size l hl g cap w1 hown).mono ?_
  rintro e w2 ⟨rfl, hown2, hg2⟩
  have hb2 := hb1.grown hg2 hb1.size (fun k e => by cases e; exact hbase)
  have hlt : rankQ p < (sortI l).length := by rw [sortI_length]; exact HR2.out
  obtain ⟨g', o', eg, HG⟩ := sl_cells (Sl.ofOwn hown2) (by simp [icells]; omega)
  cases eg
  have hcell := HG (rankQ p) _ (icells_get hlt)
  have hgd : (sortI l)[rankQ p] = (sortI l).getD (rankQ p) 0 := by simp [List.getD, List.getElem?_eq_getElem hlt]
  rw [hgd] at hcell
  obtain ⟨x, HV⟩ : ∃ x, Hid ((sortI l).getD (rankQ p) 0 = x) := ⟨_, rfl⟩
  rw [HV.out] at hcell
  rw [Nat.zero_add] at hcell
  have hcell2 : w2.cell? ⟨g, (p + 999) / 1000 - 1, none⟩ = some (.int .i64 x) := hcell
  rw [show rankQ p = (p + 1000 - 1) / 1000 - 1 from rfl] at hcell
  have hr : (p + 1000 - 1) / 1000 - 1 < l.length := HR2.out
  clear HG hlt hgd
  go_wp2
  go_ret2
  exact ⟨ret_two HV.out.symm, hb2⟩

theorem metric_Quantile (l : List Int) (a : Option Addr) (c : Nat) (mille : Int) (w : World) (hs : Sl w (.slice a l.length c) l.length (icells l)) :
    Calls Tryz.prog 13 #[.slice a l.length c, .int .i64 mille] w fun e w' => e = .returned (.tuple #[.int .i64 (quantV l mille), .int .i64 (quantF l mille)]) ∧ Below w.heap.size w w' := by
  by_cases h0 : l.length = 0
  · have hf : quantF l mille = 9 := by simp [quantF, h0]
    have hv : quantV l mille = 0 := by simp [quantV, hf]
    rw [hf, hv, h0]
    clear hf hv
    go_enter Tryz.func13, Tryz.ntmps13
    go_wp2
    go_ret2
    exact ⟨rfl, Below.refl _ _⟩
  by_cases h1 : 20000 < l.length
  · have hf : quantF l mille = 2 := by simp [quantF, h0, h1]
    have hv : quantV l mille = 0 := by simp [quantV, hf]
    have h0' : 0 < l.length := by omega
    have hz : ((l.length : Int) == 0) = false := beq_eq_false_iff_ne.2 (by omega)
    rw [hf, hv]
    clear hf hv h0
    go_enter Tryz.func13, Tryz.ntmps13
    go_wp2
    go_ret2
    exact ⟨rfl, Below.refl _ _⟩
  by_cases h2 : 1 ≤ mille ∧ mille ≤ 1000
  · have hf : quantF l mille = 0 := by simp [quantF, h0, h1, h2]
    have hv : quantV l mille = (sortI l).getD (rankQ (l.length * mille.toNat)) 0 := by simp [quantV, hf]
    rw [hf, hv]
    obtain ⟨b, o, rfl, hc⟩ := sl_cells hs (by simp [icells]; omega)
    have := quantile_ok l b o c mille.toNat w hs (by omega) (by omega) (by omega) (by omega) hc
    rw [Int.toNat_of_nonneg (by omega)] at this
    exact this
  · have hf : quantF l mille = 1 := by simp [quantF, h0, h1, h2]
    have hv : quantV l mille = 0 := by simp [quantV, hf]
    have h0' : 0 < l.length := by omega
    have hz : ((l.length : Int) == 0) = false := beq_eq_false_iff_ne.2 (by omega)
    have H2 := Lib.hid h2
    rw [hf, hv]
    clear hf hv h0 h2
    go_enter Tryz.func13, Tryz.ntmps13
    go_wp2_with fail
    refine (within_no _ _ _ (by have := H2.out; omega) _).mono ?_
    rintro e w' ⟨rfl, rfl⟩
    go_wp2
    go_ret2
    exact ⟨rfl, Below.refl _ _⟩
end Qt
end Go.Proofs.YtiieckboccbhhaaGreatDoor
namespace Go.Proofs.YtiieckboccbhhaaGreatDoor
namespace Nm
open _root_.Go.Proofs.YtiieckboccbhhaaGreatDoor.Qt (sortI sortI_length icells icells_get)
def btF (l : List Int) (m : Int) (a b : ByteArray) : Int := if l.length = 0 then 9 else if rnF l.length m a b ≠ 0 then rnF l.length m a b else if rnLo l.length m a b = 0 ∨ rnHi l.length m a b = (l.length : Int) + 1 then 9 else 0
def btLo (l : List Int) (m : Int) (a b : ByteArray) : Int := if btF l m a b = 0 then (sortI l).getD ((rnLo l.length m a b).toNat - 1) 0 else 0
def btHi (l : List Int) (m : Int) (a b : ByteArray) : Int := if btF l m a b = 0 then (sortI l).getD ((rnHi l.length m a b).toNat - 1) 0 else 0
theorem bt_none {l : List Int} {m : Int} {a b : ByteArray} (h : l.length = 0) : btLo l m a b = 0 ∧ btHi l m a b = 0 ∧ btF l m a b = 9 := by
  have h1 : btF l m a b = 9 := if_pos h
  exact ⟨if_neg (by rw [h1]; decide), if_neg (by rw [h1]; decide), h1⟩
theorem bt_bad {l : List Int} {m : Int} {a b : ByteArray} (h0 : l.length ≠ 0) (h : rnF l.length m a b ≠ 0) : btLo l m a b = 0 ∧ btHi l m a b = 0 ∧ btF l m a b = rnF l.length m a b := by
  have h1 : btF l m a b = rnF l.length m a b := by unfold btF; rw [if_neg h0, if_pos h]
  exact ⟨if_neg (by rw [h1]; exact h), if_neg (by rw [h1]; exact h), h1⟩
theorem bt_out {l : List Int} {m : Int} {a b : ByteArray} (h0 : l.length ≠ 0) (h : rnF l.length m a b = 0) (h2 : rnLo l.length m a b = 0 ∨ rnHi l.length m a b = (l.length : Int) + 1) : btLo l m a b = 0 ∧ btHi l m a b = 0 ∧ btF l m a b = 9 := by
  have h1 : btF l m a b = 9 := by unfold btF; rw [if_neg h0, if_neg (by rw [h]; decide), if_pos h2]
  exact ⟨if_neg (by rw [h1]; decide), if_neg (by rw [h1]; decide), h1⟩
/-- the ranks are ranks -/
theorem rn_range {n m : Int} {a b : ByteArray} (h : rnF n m a b = 0) : (1 ≤ n ∧ n ≤ 60) ∧ (0 ≤ rnLo n m a b ∧ rnLo n m a b ≤ n) ∧ (1 ≤ rnHi n m a b ∧ rnHi n m a b ≤ n + 1) := by
  rcases rn_cases n m a b with h1 | ⟨_, h2, h3⟩
  · exact absurd h h1.1
  · obtain ⟨n', hn⟩ : ∃ z : Nat, n = (z : Int) := ⟨n.toNat, by have := h3.1.1; omega⟩
    obtain ⟨m', hm⟩ : ∃ z : Nat, m = (z : Int) := ⟨m.toNat, by have := h3.2.1; omega⟩
    subst hn; subst hm
    obtain ⟨_, e1, e2⟩ := rn_yes h2 h3
    have h4 := lowV_le n' m' (rQ a b / 2) n'
    have h5 := ranks_hold (n := n') (m := m') (by have := h3.2.2; omega) (miss_ok h2).2.1 (miss_ok h2).2.2
    have h6 := highV_le n' m' (1 - rQ a b / 2) (d := n' + 1) (j := n') (N := n' + 1) (Nat.le_refl _) (Nat.le_succ _)
    have h7 := h5.1
    unfold loR at e1 h7
    unfold hiR at e2 h7
    rw [e1, e2]
    exact ⟨h3.1, ⟨by omega, by omega⟩, ⟨by omega, by omega⟩⟩
theorem bt_ok {l : List Int} {m : Int} {a b : ByteArray} {p r : Nat} (h0 : l.length ≠ 0) (h : rnF l.length m a b = 0) (h1 : rnLo l.length m a b = (p : Int) + 1) (h2 : rnHi l.length m a b = (r : Int) + 1) (h3 : r < l.length) : btLo l m a b = (sortI l).getD p 0 ∧ btHi l m a b = (sortI l).getD r 0 ∧ btF l m a b = 0 := by
  have hf : btF l m a b = 0 := by unfold btF; rw [if_neg h0, if_neg (by rw [h]; decide), if_neg (by rw [h1, h2]; omega)]
  refine ⟨?_, ?_, hf⟩
  · unfold btLo; rw [if_pos hf, h1, show ((p : Int) + 1).toNat - 1 = p by omega]
  · unfold btHi; rw [if_pos hf, h2, show ((r : Int) + 1).toNat - 1 = r by omega]
end Nm
end Go.Proofs.YtiieckboccbhhaaGreatDoor
