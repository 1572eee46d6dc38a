/- Plain: which evidences are decided by the rule of Holm and as a share: from any row that is sorted, in terms that no order hangs in. The sorted row of numbers, in plain words. Maps of a call's own, as lists of pairs: any keys, any values. No program stands in it. 'for k, v := range m' over a map of the call's own, as a list of pairs. No program stands in it. What keeps exact numbers: the words that are there stay. No program stands in it but for the words' type. The row of evidences, sorted: what stays where a block is written. Printed by gen_rank.py. -/
import Derived.Test.YtemenlcigengeaaGreatDoorTq00
import Derived.Test.YtemenlcigengeaaGreatDoorTq43
import Derived.Test.YtemenlcigengeaaGreatDoorTq36
import Derived.Test.YtemenlcigengeaaGreatDoorTq41
import Derived.Maps.OwnSet
import Derived.Maps.RangeWalk
import Derived.Test.YtemenlcigengeaaGreatDoorTq16
import Derived.Test.YtemenlcigengeaaGreatDoorTq31
namespace Go.Proofs.YtemenlcigengeaaGreatDoor
namespace Nm
/-- a row of places, the greatest value first -/
def Rk (v : Nat → Rat) (n : Nat) (P : List Nat) : Prop := P.Perm (List.range n) ∧ P.Pairwise (fun a b => v b ≤ v a)
theorem thr (p : Nat → Bool) : ∀ (P : List Nat), P.Pairwise (fun a b => p b = true → p a = true) → ∀ m (h : m < P.length), (m < P.countP p ↔ p P[m] = true)
  | [], _, m, h => by simp at h
  | q :: r, hp, m, h => by
    obtain ⟨h1, h2⟩ := List.pairwise_cons.1 hp
    by_cases hq : p q = true
    · rw [List.countP_cons_of_pos hq]
      cases m with
      | zero => simp [hq]
      | succ m => simpa using thr p r h2 m (by simpa using h)
    · rw [List.countP_cons_of_neg hq]
      have h0 : r.countP p = 0 := by
        rw [List.countP_eq_zero]
        intro a ha hpa
        exact hq (h1 a ha hpa)
      rw [h0]
      cases m with
      | zero => simp [hq]
      | succ m =>
        simp only [List.getElem_cons_succ, Nat.not_lt_zero, false_iff]
        intro hh
        exact hq (h1 _ (List.getElem_mem _) hh)
/-- first place at which the rule fails -/
def hJ (v : Nat → Rat) (th : Nat → Rat) : List Nat → Nat → Nat
  | [], j => j
  | p :: r, j => if v p < th j then j else hJ v th r (j + 1)
theorem hJ_facts (v th : Nat → Rat) : ∀ (P : List Nat) (j : Nat), j ≤ hJ v th P j ∧ hJ v th P j ≤ j + P.length ∧ (∀ m (h : m < P.length), j + m < hJ v th P j → th (j + m) ≤ v P[m]) ∧ (∀ m (h : m < P.length), j + m = hJ v th P j → v P[m] < th (j + m))
  | [], j => by refine ⟨Nat.le_refl _, Nat.le_refl _, ?_, ?_⟩ <;> (intro m h; simp at h)
  | p :: r, j => by
    unfold hJ
    by_cases h : v p < th j
    · rw [if_pos h]
      refine ⟨Nat.le_refl _, by omega, fun m hm h1 => by omega, fun m hm h1 => ?_⟩
      obtain rfl : m = 0 := by omega
      simpa using h
    · rw [if_neg h]
      obtain ⟨a1, a2, a3, a4⟩ := hJ_facts v th r (j + 1)
      refine ⟨by omega, by simp only [List.length_cons]; omega, fun m hm h1 => ?_, fun m hm h1 => ?_⟩
      · cases m with
        | zero => simpa using Rat.not_lt.1 h
        | succ m => have := a3 m (by simpa using hm) (by omega); rw [show j + (m + 1) = j + 1 + m by omega]; simpa using this
      · cases m with
        | zero => omega
        | succ m => have := a4 m (by simpa using hm) (by omega); rw [show j + (m + 1) = j + 1 + m by omega]; simpa using this
def cgt (v : Nat → Rat) (n : Nat) (x : Rat) : Nat := (List.range n).countP (fun m => decide (x < v m))
def cge (v : Nat → Rat) (n : Nat) (x : Rat) : Nat := (List.range n).countP (fun m => decide (x ≤ v m))
theorem Rk.len {v : Nat → Rat} {n : Nat} {P : List Nat} (h : Rk v n P) : P.length = n := by rw [h.1.length_eq, List.length_range]
theorem Rk.mem {v : Nat → Rat} {n : Nat} {P : List Nat} (h : Rk v n P) {k : Nat} : k ∈ P ↔ k < n := by rw [h.1.mem_iff, List.mem_range]
theorem Rk.at {v : Nat → Rat} {n : Nat} {P : List Nat} (h : Rk v n P) {k : Nat} (hk : k < n) : ∃ b, ∃ hb : b < P.length, P[b] = k := List.getElem_of_mem (h.mem.2 hk)
theorem Rk.sorted {v : Nat → Rat} {n : Nat} {P : List Nat} (h : Rk v n P) {a b : Nat} (ha : a < P.length) (hb : b < P.length) (hab : a ≤ b) : v P[b] ≤ v P[a] := by
  by_cases e : a = b
  · subst e; exact Rat.le_refl
  · exact List.pairwise_iff_getElem.1 h.2 a b ha hb (by omega)
theorem Rk.gt {v : Nat → Rat} {n : Nat} {P : List Nat} (h : Rk v n P) (x : Rat) {m : Nat} (hm : m < P.length) : m < cgt v n x ↔ x < v P[m] := by
  have hp : P.Pairwise (fun a b => decide (x < v b) = true → decide (x < v a) = true) := h.2.imp fun {a b} hab hb => by
    rw [decide_eq_true_iff] at hb ⊢
    exact Std.lt_of_lt_of_le hb hab
  have := thr (fun m => decide (x < v m)) P hp m hm
  unfold cgt
  rw [← h.1.countP_eq, this, decide_eq_true_iff]
theorem Rk.ge {v : Nat → Rat} {n : Nat} {P : List Nat} (h : Rk v n P) (x : Rat) {m : Nat} (hm : m < P.length) : m < cge v n x ↔ x ≤ v P[m] := by
  have hp : P.Pairwise (fun a b => decide (x ≤ v b) = true → decide (x ≤ v a) = true) := h.2.imp fun {a b} hab hb => by
    rw [decide_eq_true_iff] at hb ⊢
    exact Std.le_trans hb hab
  have := thr (fun m => decide (x ≤ v m)) P hp m hm
  unfold cge
  rw [← h.1.countP_eq, this, decide_eq_true_iff]
theorem mem_take_at {P : List Nat} (hn : P.Nodup) {a J : Nat} (ha : a < P.length) : P[a] ∈ P.take J ↔ a < J := by
  constructor
  · intro h
    obtain ⟨b, hb, e⟩ := List.getElem_of_mem h
    rw [List.getElem_take] at e
    have hb' : b < P.length := by rw [List.length_take] at hb; omega
    have hbJ : b < J := by rw [List.length_take] at hb; omega
    have := (List.getElem_inj (h₀ := hb') (h₁ := ha) hn).1 e
    omega
  · intro h
    rw [List.mem_take_iff_getElem]
    exact ⟨a, by omega, rfl⟩
theorem Rk.nodup {v : Nat → Rat} {n : Nat} {P : List Nat} (h : Rk v n P) : P.Nodup := h.1.nodup_iff.2 List.nodup_range
/-- what the rule of Holm decides -/
def HolmD (v th : Nat → Rat) (n i : Nat) : Prop := ∀ k, k < n → v i ≤ v k → th (cgt v n (v k)) ≤ v k
/-- what the share decides -/
def ShareD (v : Nat → Rat) (D : Rat) (n i : Nat) : Prop := ∃ k, k < n ∧ v k ≤ v i ∧ D ≤ v k * (cge v n (v k) : Rat)
theorem holm_mem {v th : Nat → Rat} {n : Nat} {P : List Nat} (h : Rk v n P) (ht : ∀ c j, c ≤ j → j < n → th j ≤ th c) {i : Nat} (hi : i < n) : i ∈ P.take (hJ v th P 0) ↔ HolmD v th n i := by
  obtain ⟨_, h2, h3, h4⟩ := hJ_facts v th P 0
  obtain ⟨a, ha, rfl⟩ := h.at hi
  have hl := h.len
  rw [mem_take_at h.nodup ha]
  generalize hJ v th P 0 = J at *
  constructor
  · intro haJ k hk hik
    obtain ⟨b, hb, rfl⟩ := h.at hk
    have e1 : cgt v n (v P[b]) ≤ b := by
      by_cases hh : b < cgt v n (v P[b])
      · exact absurd ((h.gt (v P[b]) hb).1 hh) Rat.lt_irrefl
      · omega
    obtain ⟨j0, hj0⟩ : ∃ j0, cgt v n (v P[b]) = j0 := ⟨_, rfl⟩
    rw [hj0] at e1 ⊢
    have hj : j0 < P.length := by omega
    have e2 : v P[b] ≤ v P[j0] := h.sorted hj hb e1
    have e3 : j0 ≤ a := by
      by_cases hh : a < j0
      · rw [← hj0] at hh
        have := (h.gt (v P[b]) ha).1 hh
        exact absurd (Std.lt_of_lt_of_le this hik) Rat.lt_irrefl
      · omega
    have e4 : ¬ (v P[b] < v P[j0]) := fun hh => by
      have := (h.gt (v P[b]) hj).2 hh
      omega
    have e5 := h3 j0 hj (by omega)
    rw [Nat.zero_add] at e5
    have e6 : v P[j0] ≤ v P[b] := Rat.not_lt.1 e4
    exact Std.le_trans e5 e6
  · intro hd
    by_cases haJ : a < J
    · exact haJ
    · exfalso
      have hJ : J < P.length := by omega
      have e1 := h4 J hJ (by omega)
      rw [Nat.zero_add] at e1
      have e2 := hd P[J] (h.mem.1 (List.getElem_mem _)) (h.sorted hJ ha (by omega))
      have e3 : cgt v n (v P[J]) ≤ J := by
        by_cases hh : J < cgt v n (v P[J])
        · exact absurd ((h.gt (v P[J]) hJ).1 hh) Rat.lt_irrefl
        · omega
      have e4 := ht _ _ e3 (by omega)
      exact absurd (Std.lt_of_lt_of_le e1 (Std.le_trans e4 e2)) Rat.lt_irrefl
/-- how many are decided as a share -/
def shN (v : Nat → Rat) (D : Rat) : List Nat → Nat → Nat → Nat
  | [], _, N => N
  | p :: r, j, N => shN v D r (j + 1) (if D ≤ v p * ((j + 1 : Nat) : Rat) then j + 1 else N)
theorem shN_facts (v : Nat → Rat) (D : Rat) : ∀ (P : List Nat) (j N : Nat), N ≤ j → N ≤ shN v D P j N ∧ shN v D P j N ≤ j + P.length ∧ (shN v D P j N = N ∨ ∃ m, ∃ h : m < P.length, shN v D P j N = j + m + 1 ∧ D ≤ v P[m] * ((j + m + 1 : Nat) : Rat)) ∧ (∀ m (h : m < P.length), D ≤ v P[m] * ((j + m + 1 : Nat) : Rat) → j + m + 1 ≤ shN v D P j N)
  | [], j, N, h => ⟨Nat.le_refl _, by simpa [shN] using h, .inl rfl, fun m h => by simp at h⟩
  | p :: r, j, N, h => by
    unfold shN
    by_cases hd : D ≤ v p * ((j + 1 : Nat) : Rat)
    · rw [if_pos hd]
      obtain ⟨a1, a2, a3, a4⟩ := shN_facts v D r (j + 1) (j + 1) (Nat.le_refl _)
      refine ⟨by omega, by simp only [List.length_cons]; omega, ?_, ?_⟩
      · right
        rcases a3 with e | ⟨m, hm, e1, e2⟩
        · exact ⟨0, by simp, by rw [e], by simpa using hd⟩
        · refine ⟨m + 1, by simpa using hm, by omega, ?_⟩
          rw [show j + (m + 1) + 1 = j + 1 + m + 1 by omega]
          simpa using e2
      · intro m hm h1
        cases m with
        | zero => omega
        | succ m =>
          have := a4 m (by simpa using hm) (by rw [show j + 1 + m + 1 = j + (m + 1) + 1 by omega]; simpa using h1)
          omega
    · rw [if_neg hd]
      obtain ⟨a1, a2, a3, a4⟩ := shN_facts v D r (j + 1) N (by omega)
      refine ⟨by omega, by simp only [List.length_cons]; omega, ?_, ?_⟩
      · rcases a3 with e | ⟨m, hm, e1, e2⟩
        · exact .inl e
        · right
          refine ⟨m + 1, by simpa using hm, by omega, ?_⟩
          rw [show j + (m + 1) + 1 = j + 1 + m + 1 by omega]
          simpa using e2
      · intro m hm h1
        cases m with
        | zero => exact absurd (by simpa using h1) hd
        | succ m =>
          have := a4 m (by simpa using hm) (by rw [show j + 1 + m + 1 = j + (m + 1) + 1 by omega]; simpa using h1)
          omega
theorem cast_le {a b : Nat} (h : a ≤ b) : (a : Rat) ≤ (b : Rat) := Rat.natCast_le_natCast.2 h
theorem share_mem {v : Nat → Rat} {D : Rat} {n : Nat} {P : List Nat} (h : Rk v n P) (h0 : ∀ k, k < n → 0 ≤ v k) {i : Nat} (hi : i < n) : i ∈ P.take (shN v D P 0 0) ↔ ShareD v D n i := by
  obtain ⟨_, h2, h3, h4⟩ := shN_facts v D P 0 0 (Nat.le_refl _)
  obtain ⟨a, ha, rfl⟩ := h.at hi
  have hl := h.len
  rw [mem_take_at h.nodup ha]
  generalize shN v D P 0 0 = N at *
  constructor
  · intro haN
    rcases h3 with e | ⟨m, hm, e1, e2⟩
    · omega
    · refine ⟨P[m], h.mem.1 (List.getElem_mem _), h.sorted ha hm (by omega), ?_⟩
      rw [Nat.zero_add] at e2
      have e3 : m < cge v n (v P[m]) := (h.ge (v P[m]) hm).2 Rat.le_refl
      exact Std.le_trans e2 (Rat.mul_le_mul_of_nonneg_left (cast_le (by omega)) (h0 _ (h.mem.1 (List.getElem_mem _))))
  · intro ⟨k, hk, hki, hd⟩
    obtain ⟨b, hb, rfl⟩ := h.at hk
    obtain ⟨c, hc⟩ : ∃ c, cge v n (v P[b]) = c := ⟨_, rfl⟩
    have e1 : b < c := by rw [← hc]; exact (h.ge (v P[b]) hb).2 Rat.le_refl
    have e2 : a < c := by rw [← hc]; exact (h.ge (v P[b]) ha).2 hki
    have e3 : c ≤ n := by rw [← hc]; unfold cge; exact Nat.le_trans List.countP_le_length (by rw [List.length_range]; exact Nat.le_refl _)
    rw [hc] at hd
    obtain ⟨j, rfl⟩ : ∃ j, c = j + 1 := ⟨c - 1, by omega⟩
    have hj : j < P.length := by omega
    have e4 : v P[b] ≤ v P[j] := (h.ge (v P[b]) hj).1 (by omega)
    have e5 := h4 j hj (by rw [Nat.zero_add]; exact Std.le_trans hd (Rat.mul_le_mul_of_nonneg_right e4 (cast_le (Nat.zero_le _))))
    omega
end Nm
end Go.Proofs.YtemenlcigengeaaGreatDoor
namespace Go.Proofs.YtemenlcigengeaaGreatDoor
open Go.RowKit
namespace Nm
/-- the order of numbers by their values, the greatest first -/
def cmpV (v : Nat → Rat) (x y : Nat) : Int := cmpQ (v y) (v x)
theorem cmpV_lt {v : Nat → Rat} {x y : Nat} : ltOf (cmpV v) x y = true ↔ v y < v x := by
  unfold ltOf cmpV
  rw [decide_eq_true_eq, cmpQ_neg]
theorem cmpV_ge {v : Nat → Rat} {x y : Nat} : ltOf (cmpV v) x y = false ↔ v x ≤ v y := by
  rw [← Bool.not_eq_true, cmpV_lt, Rat.not_lt]
theorem cmpV_swo (v : Nat → Rat) : Go.Sort.SWO (ltOf (cmpV v)) where
  irrefl _x := cmpV_ge.2 (Std.le_refl _)
  trans _x _y _z h k := cmpV_lt.2 (Std.lt_trans (cmpV_lt.1 k) (cmpV_lt.1 h))
  ntrans _x _y _z h k := cmpV_ge.2 (Std.le_trans (cmpV_ge.1 h) (cmpV_ge.1 k))
def rankP (v : Nat → Rat) (n : Nat) : List Nat := (Go.Sort.insertionSort (ltOf (cmpV v)) (Array.range n) 0 n).toList
theorem rankP_rk (v : Nat → Rat) (n : Nat) : Rk v n (rankP v n) := by
  have hz : (Array.range n).size = n := by simp
  obtain ⟨hp, hs⟩ := Go.Sort.insertionSort_holds (lt := ltOf (cmpV v)) (cmpV_swo v) (Array.range n) 0 n (Nat.zero_le _) (by omega)
  obtain ⟨h1, _, h3⟩ := hp
  have hz' : (Go.Sort.insertionSort (ltOf (cmpV v)) (Array.range n) 0 n).size = n := by rw [h1, hz]
  refine ⟨?_, ?_⟩
  · unfold rankP
    have e1 : (Go.Sort.insertionSort (ltOf (cmpV v)) (Array.range n) 0 n).extract 0 n = Go.Sort.insertionSort (ltOf (cmpV v)) (Array.range n) 0 n := by
      rw [Array.extract_eq_self_of_le]; omega
    have e2 : (Array.range n).extract 0 n = Array.range n := by rw [Array.extract_eq_self_of_le]; omega
    rw [e1, e2] at h3
    simpa using h3
  · unfold rankP
    rw [List.pairwise_iff_getElem]
    intro i j hi hj hij
    have hi' : i < n := by simpa [hz'] using hi
    have hj' : j < n := by simpa [hz'] using hj
    have := hs i j (Nat.zero_le _) hij hj'
    rw [getElem!_pos _ i (by omega), getElem!_pos _ j (by omega)] at this
    have := cmpV_ge.1 this
    simpa using this
end Nm
end Go.Proofs.YtemenlcigengeaaGreatDoor
namespace Go.Proofs.YtemenlcigengeaaGreatDoor
open Go.RowKit
variable {α β : Type}
/-- The map that block b is, as a list of pairs. -/
def MapIs (kv : α → Value) (vv : β → Value) (w : World) (b : Nat) (l : List (α × β)) : Prop :=
  ∃ (es : Array MapEntry) (clock : Nat), w.heap[b]? = some (.map es clock) ∧ es.toList.map (·.key) = l.map (fun p => kv p.1) ∧ es.toList.map (·.val) = l.map (fun p => vv p.2) ∧ (∀ e ∈ es.toList, e.born < clock) ∧ es.toList.Pairwise (fun a b => a.born ≠ b.born)
theorem MapIs.made (kv : α → Value) (vv : β → Value) (w : World) : MapIs kv vv (w.alloc (.map #[] 0)) w.heap.size [] :=
  ⟨#[], 0, by show (w.heap.push (.map #[] 0))[w.heap.size]? = _; simp, rfl, rfl, by simp, by simp⟩
theorem MapIs.lt {kv : α → Value} {vv : β → Value} {w : World} {b : Nat} {l : List (α × β)} (h : MapIs kv vv w b l) : b < w.heap.size := by
  obtain ⟨_, _, h1, _⟩ := h; exact (Array.getElem?_eq_some_iff.1 h1).1
theorem MapIs.ext {kv : α → Value} {vv : β → Value} {w w' : World} {b : Nat} {l : List (α × β)} (h : MapIs kv vv w b l) (hb : Below w.heap.size w w') : MapIs kv vv w' b l := by
  have hlt := h.lt
  obtain ⟨es, clock, h1, h2⟩ := h
  exact ⟨es, clock, (hb.block b hlt).trans h1, h2⟩
theorem MapIs.below {kv : α → Value} {vv : β → Value} {w w' : World} {b B : Nat} {l : List (α × β)} (h : MapIs kv vv w b l) (hb : Below B w w') (hB : b < B) : MapIs kv vv w' b l := by
  obtain ⟨es, clock, h1, h2⟩ := h
  exact ⟨es, clock, (hb.block b hB).trans h1, h2⟩
/-- another block than the one that grew -/
theorem MapIs.grown {kv : α → Value} {vv : β → Value} {w w' : World} {b : Nat} {l : List (α × β)} {row : Option Nat} (h : MapIs kv vv w b l) (hg : w.grownBy w' row) (hr : row ≠ some b) : MapIs kv vv w' b l := by
  have hlt := h.lt
  obtain ⟨es, clock, h1, h2⟩ := h
  exact ⟨es, clock, (hg.block b hlt (fun e => hr e.symm)).trans h1, h2⟩
theorem turned_cell {w w' : World} {b : Nat} (h : w.mapTurned w' b) (a : Addr) : w'.cell? a = w.cell? a := by
  obtain ⟨es, clock, es', clock', h1, rfl⟩ := h
  simp only [World.cell?, ChangeMaps.setBlock, Array.getElem?_setIfInBounds]
  by_cases hb : b = a.block
  · subst hb
    have hlt := (Array.getElem?_eq_some_iff.1 h1).1
    simp only [if_true, hlt, h1]
  · rw [if_neg hb]
theorem turned_size {w w' : World} {b : Nat} (h : w.mapTurned w' b) : w'.heap.size = w.heap.size := by
  obtain ⟨es, clock, es', clock', h1, rfl⟩ := h
  simp [ChangeMaps.setBlock]
/-- below B every cell reads as it did -/
def CellsKept (B : Nat) (w w' : World) : Prop := w.heap.size ≤ w'.heap.size ∧ ∀ b o, b < B → w'.cell? ⟨b, o, none⟩ = w.cell? ⟨b, o, none⟩
theorem CellsKept.refl (B : Nat) (w : World) : CellsKept B w w := ⟨Nat.le_refl _, fun _ _ _ => rfl⟩
theorem CellsKept.below {B : Nat} {w w1 w2 : World} (h : CellsKept B w w1) (hb : Below B w1 w2) : CellsKept B w w2 :=
  ⟨Nat.le_trans h.1 hb.size, fun b o hB => (hb.cell (p := ⟨b, o, none⟩) hB).trans (h.2 b o hB)⟩
theorem CellsKept.ext {B : Nat} {w w1 w2 : World} (h : CellsKept B w w1) (hB : B ≤ w.heap.size) (hb : Below w1.heap.size w1 w2) : CellsKept B w w2 := h.below (hb.mono (Nat.le_trans hB h.1))
theorem CellsKept.turned {B b : Nat} {w w1 w2 : World} (h : CellsKept B w w1) (ht : w1.mapTurned w2 b) : CellsKept B w w2 :=
  ⟨by rw [turned_size ht]; exact h.1, fun b o hB => (turned_cell ht _).trans (h.2 b o hB)⟩
theorem CellsKept.sl {w w' : World} {v : Value} {n : Nat} {cs : List Value} (h : CellsKept w.heap.size w w') (s : Sl w v n cs) : Sl w' v n cs := by
  obtain ⟨a, cap, hv, h1, h2, h0, h3⟩ := s
  refine ⟨a, cap, hv, h1, h2, h0, fun i x hx => ?_⟩
  obtain ⟨b, o, ha, hc⟩ := h3 i x hx
  exact ⟨b, o, ha, (h.2 b (o + i) (World.block_lt_of_cell? w _ hc)).trans hc⟩
end Go.Proofs.YtemenlcigengeaaGreatDoor
namespace Go.Proofs.YtemenlcigengeaaGreatDoor
open Go.RowKit Go.ChangeMaps Go.MapKept
variable {α β : Type}
/-- the loop under way: 'left' is what is still to come -/
def RangeIs (kv : α → Value) (vv : β → Value) (w : World) (b r : Nat) (l left : List (α × β)) : Prop :=
  ∃ (es : Array MapEntry) (clock since : Nat) (seen : Array Nat) (c0 : Nat), w.heap[b]? = some (.map es clock) ∧ es.toList.map (·.key) = l.map (fun p => kv p.1) ∧ es.toList.map (·.val) = l.map (fun p => vv p.2) ∧ (∀ e ∈ es.toList, e.born < clock) ∧ es.toList.Pairwise (fun a b => a.born ≠ b.born) ∧
    w.heap[r]? = some (.mapIter (some b) since seen c0) ∧ (∀ x ∈ es.toList, x.born < since) ∧ since ≤ c0 ∧ since ≤ clock ∧
    (leftOf es seen).toList.map (·.key) = left.map (fun p => kv p.1) ∧ (leftOf es seen).toList.map (·.val) = left.map (fun p => vv p.2)
theorem RangeIs.owns {kv : α → Value} {vv : β → Value} {w : World} {b r : Nat} {l left : List (α × β)} (h : RangeIs kv vv w b r l left) : MapIs kv vv w b l := by
  obtain ⟨es, clock, _, _, _, h1, h2, h3, h4, h5, _⟩ := h
  exact ⟨es, clock, h1, h2, h3, h4, h5⟩
theorem RangeIs.lt {kv : α → Value} {vv : β → Value} {w : World} {b r : Nat} {l left : List (α × β)} (h : RangeIs kv vv w b r l left) : r < w.heap.size := by
  obtain ⟨es, clock, _, _, _, _, _, _, _, _, h6, _⟩ := h
  exact (Array.getElem?_eq_some_iff.1 h6).1
theorem RangeIs.ne {kv : α → Value} {vv : β → Value} {w : World} {b r : Nat} {l left : List (α × β)} (h : RangeIs kv vv w b r l left) : r ≠ b := by
  obtain ⟨es, clock, _, _, _, h1, _, _, _, _, h6, _⟩ := h
  intro e; rw [e, h1] at h6; cases h6
theorem RangeIs.kept {kv : α → Value} {vv : β → Value} {w w' : World} {b r : Nat} {l left : List (α × β)} {row : Option Nat} (h : RangeIs kv vv w b r l left) (hg : w.grownBy w' row) (hb : row ≠ some b) (hr : row ≠ some r) : RangeIs kv vv w' b r l left := by
  have l1 := h.owns.lt
  have l2 := h.lt
  obtain ⟨es, clock, since, seen, c0, h1, h2, h3, h4, h5, h6, h7⟩ := h
  exact ⟨es, clock, since, seen, c0, (hg.block b l1 (fun e => hb e.symm)).trans h1, h2, h3, h4, h5, (hg.block r l2 (fun e => hr e.symm)).trans h6, h7⟩
theorem RangeIs.ext {kv : α → Value} {vv : β → Value} {w w' : World} {b r : Nat} {l left : List (α × β)} (h : RangeIs kv vv w b r l left) (hb : Below w.heap.size w w') : RangeIs kv vv w' b r l left := by
  have l1 := h.owns.lt
  have l2 := h.lt
  obtain ⟨es, clock, since, seen, c0, h1, h2, h3, h4, h5, h6, h7⟩ := h
  exact ⟨es, clock, since, seen, c0, (hb.block b l1).trans h1, h2, h3, h4, h5, (hb.block r l2).trans h6, h7⟩
end Go.Proofs.YtemenlcigengeaaGreatDoor
namespace Go.Proofs.YtemenlcigengeaaGreatDoor
open Go.RowKit
namespace Nm
/-- Every word of w is there in w'. -/
def Kp (w w' : World) : Prop := w.heap.size ≤ w'.heap.size ∧ ∀ (a : Addr) (z : Int), w.cell? a = some (.int .u32 z) → w'.cell? a = some (.int .u32 z)
theorem Kp.refl (w : World) : Kp w w := ⟨Nat.le_refl _, fun _ _ h => h⟩
theorem Kp.trans {a b c : World} (h : Kp a b) (k : Kp b c) : Kp a c := ⟨Nat.le_trans h.1 k.1, fun p z hp => k.2 p z (h.2 p z hp)⟩
theorem Kp.ext {w w' : World} (h : Below w.heap.size w w') : Kp w w' := ⟨h.size, fun _a _z ha => (h.cell (World.block_lt_of_cell? w _ ha)).trans ha⟩
theorem Kp.turned {w w' : World} {b : Nat} (h : w.mapTurned w' b) : Kp w w' := ⟨by rw [turned_size h]; exact Nat.le_refl _, fun a z ha => (turned_cell h a).trans ha⟩
theorem Kp.setCell {w : World} {p : Addr} {u : Value} (hu : w.cell? p = some u) (hn : isWord u = false) (v : Value) : Kp w (w.setCell p v) := by
  refine ⟨by simp, fun a z ha => ?_⟩
  have hne : p ≠ a := fun e => by subst e; rw [hu] at ha; cases ha; cases hn
  rw [World.cell?_setCell_other _ _ _ _ hne]; exact ha
theorem N.kp {w w' : World} {v : Value} {n : Nat} (h : N w v n) (hk : Kp w w') : N w' v n := by
  obtain ⟨a, cap, hv, h1, h2, h0, h3⟩ := h
  refine ⟨a, cap, hv, h1, h2, h0, fun i x hx => ?_⟩
  obtain ⟨b, o, ha, hc⟩ := h3 i x hx
  refine ⟨b, o, ha, ?_⟩
  have hi : i < (digs n).length := by have := (List.getElem?_eq_some_iff.1 hx).1; rwa [wcs_length] at this
  rw [wcs_get hi] at hx
  cases hx
  exact hk.2 _ _ hc
theorem XR.kp {w w' : World} {v : Value} {q : Rat} (h : XR w v q) (hk : Kp w w') : XR w' v q := by
  obtain ⟨v1, v2, h0, h1, h2⟩ := h; exact ⟨v1, v2, h0, h1.kp hk, h2.kp hk⟩
/-- a row of the call's own without words has grown -/
theorem Kp.grown {w w' : World} {v : Value} (hg : w.grownBy w' v.ownBlock) (hq : RowQ (fun u => isWord u = false) w v) : Kp w w' := by
  refine ⟨hg.size, fun a z ha => ?_⟩
  have hlt := World.block_lt_of_cell? w _ ha
  by_cases he : v.ownBlock = some a.block
  · exfalso
    obtain ⟨b, o, s⟩ := a
    cases s with
    | none => have := hq b he o _ ha; cases this
    | some s => simp only [World.cell?] at ha; split at ha <;> simp at ha
  · rw [World.cell?_of_block (w := w) (hg.block a.block hlt (fun e => he e.symm))]; exact ha
/-- three cells of a block without words, written -/
theorem Kp.set3 {w : World} {b : Nat} {A : Array Value} (hA : Box w b A) (hn : ∀ (j : Nat) (u : Value), A[j]? = some u → isWord u = false) (v0 v1 v2 : Value) : Kp w (((w.setCell ⟨b, 0, none⟩ v0).setCell ⟨b, 1, none⟩ v1).setCell ⟨b, 2, none⟩ v2) := by
  refine ⟨by simp, fun a z ha => ?_⟩
  have hne : a.block ≠ b := fun e => by
    obtain ⟨b', o, s⟩ := a
    subst e
    cases s with
    | none => rw [hA.2 o] at ha; have := hn _ _ ha; cases this
    | some s => simp only [World.cell?] at ha; split at ha <;> simp at ha
  rw [set3_other _ _ _ a hne]; exact ha
end Nm
end Go.Proofs.YtemenlcigengeaaGreatDoor
namespace Go.Proofs.YtemenlcigengeaaGreatDoor
open Go.RowKit
namespace Nm
def SameAt (g : Nat) (w w' : World) : Prop := ∀ o, w'.cell? ⟨g, o, none⟩ = w.cell? ⟨g, o, none⟩
theorem SameAt.trans {g : Nat} {a b c : World} (h : SameAt g a b) (k : SameAt g b c) : SameAt g a c := fun o => (k o).trans (h o)
theorem SameAt.setCell {g : Nat} {w : World} {p : Addr} (hne : p.block ≠ g) (v : Value) : SameAt g w (w.setCell p v) := fun o => World.cell?_setCell_other _ _ _ _ (fun e => hne (by rw [e]))
theorem SameAt.set3 {g : Nat} {w : World} {b : Nat} (hne : b ≠ g) (v0 v1 v2 : Value) : SameAt g w (((w.setCell ⟨b, 0, none⟩ v0).setCell ⟨b, 1, none⟩ v1).setCell ⟨b, 2, none⟩ v2) :=
  ((SameAt.setCell (p := ⟨b, 0, none⟩) hne _).trans (SameAt.setCell (p := ⟨b, 1, none⟩) hne _)).trans (SameAt.setCell (p := ⟨b, 2, none⟩) hne _)
theorem sl_far {w w' : World} {g n c : Nat} {cs : List Value} (h : Sl w (.slice (some ⟨g, 0, none⟩) n c) n cs) (hs : SameAt g w w') : Sl w' (.slice (some ⟨g, 0, none⟩) n c) n cs := by
  obtain ⟨a, cap, hv, h1, h2, h0, h3⟩ := h
  refine ⟨a, cap, hv, h1, h2, h0, fun i x hx => ?_⟩
  obtain ⟨b, o, ha, hc⟩ := h3 i x hx
  cases hv; cases ha
  exact ⟨g, 0, rfl, (hs _).trans hc⟩
theorem XsOf.far {w w' : World} {l : List RT} {xs : List Y3} {g c : Nat} (h : XsOf w l xs (some ⟨g, 0, none⟩) c) (hk : Kp w w') (hs : SameAt g w w') : XsOf w' l xs (some ⟨g, 0, none⟩) c :=
  ⟨h.len, sl_far h.sl hs, fun i x r h1 h2 => (h.ok i x r h1 h2).kp hk⟩
theorem kp_box1 {w : World} {b : Nat} {u : Value} (hB : Box w b #[u]) (hn : isWord u = false) (v : Value) : Kp w (w.setCell ⟨b, 0, none⟩ v) := Kp.setCell (u := u) (hB.2 0) hn v
def vL (l : List RT) (i : Nat) : Rat := match l[i]? with | some r => rQ r.n r.d | none => 0
theorem vL_at {l : List RT} {i : Nat} {r : RT} (h : l[i]? = some r) : vL l i = rQ r.n r.d := by unfold vL; rw [h]
def rkF (l : List RT) (n d : ByteArray) : Int := if allF l ≠ 0 then allF l else missF n d
structure RkOk (w : World) (l : List RT) (n d : ByteArray) (xs : List Y3) (a3 : Option Addr) (c3 : Nat) (a4 : Option Addr) (c4 : Nat) (t : Y3) : Prop where
  xs : XsOf w l xs a3 c3
  sl : Sl w (.slice a4 l.length c4) l.length (Nt.wcs (rankP (vL l) l.length))
  nd : XR w (y3V t) (rQ n d)⁻¹
theorem RkOk.ext {w w' : World} {l : List RT} {n d : ByteArray} {xs : List Y3} {a3 : Option Addr} {c3 : Nat} {a4 : Option Addr} {c4 : Nat} {t : Y3} (h : RkOk w l n d xs a3 c3 a4 c4 t) (hb : Below w.heap.size w w') : RkOk w' l n d xs a3 c3 a4 c4 t :=
  ⟨h.xs.ext hb, h.sl.ext hb, h.nd.ext hb⟩
def RkIf (w : World) (f : Int) (l : List RT) (n d : ByteArray) (xs : List Y3) (a3 : Option Addr) (c3 : Nat) (a4 : Option Addr) (n4 c4 : Nat) (t : Y3) : Prop := f = 0 → n4 = l.length ∧ RkOk w l n d xs a3 c3 a4 c4 t
theorem RkIf.ext {w w' : World} {f : Int} {l : List RT} {n d : ByteArray} {xs : List Y3} {a3 : Option Addr} {c3 : Nat} {a4 : Option Addr} {n4 c4 : Nat} {t : Y3} (h : RkIf w f l n d xs a3 c3 a4 n4 c4 t) (hb : Below w.heap.size w w') : RkIf w' f l n d xs a3 c3 a4 n4 c4 t :=
  fun h0 => ⟨(h h0).1, (h h0).2.ext hb⟩
def RankPost (w : World) (l : List RT) (n d : ByteArray) (e : Ending) (w' : World) : Prop :=
  ∃ a3 c3 xs a4 n4 c4 t, e = .returned (.tuple #[.slice a3 xs.length c3, .slice a4 n4 c4, y3V t, .int .i64 (rkF l n d)]) ∧ RkIf w' (rkF l n d) l n d xs a3 c3 a4 n4 c4 t ∧ Below w.heap.size w w'
end Nm
namespace Nt
theorem wpList_append_wi {w : World} {ops : Array Oper} {rest : List Oper} {o : Oper} {a : Act} {Q : Exit → Act → World → Prop} (hgd : o.guard = none) (s x : Operand)
    (ho : o.op = .call { callee := .builtin .append, args := #[s, x], argTypes := #[35, 35] })
    (base : Nat) {v : Value} {l : List Nat} (hs : a.eval s = v) (hown : Row w base v l) {z : Int} (y : Nat) (hx : a.eval x = .slice (some ⟨w.heap.size, 0, none⟩) 1 1) (hz : z = (y : Int))
    (hn : l.length ≤ 10000000000) (hbase : base ≤ w.heap.size)
    (h : ∀ v' w', Row w' base v' (l ++ [y]) → Below base w w' → wpList Tryz.prog ops Q rest (a.put o.dst v') w') : wpList Tryz.prog ops Q (o :: rest) a (w.alloc (.cells #[.int .i64 z] 3)) := by
  subst hz
  refine wpList_append_sl hgd s x _ ho base 3 Tryz.underlying35 i64_info rfl (by decide) hs (ownsRow_ext hown (ext_alloc _ _)) hx (Sl.new w #[.int .i64 (y : Int)] _ 1 1 (by omega) (by decide)) rfl (by intro u hu; simp at hu; subst hu; rfl) (by unfold maxLen; omega) (by omega) (by simp; omega) (fun v' w' h1 h2 _ => ?_)
  refine h v' w' ?_ ?_
  · unfold Row
    rw [List.length_append, List.length_singleton]
    have e : wcs (l ++ [y]) = wcs l ++ [.int .i64 (y : Int)] := by simp [wcs, wc]
    rw [e]; exact h1
  · exact ((ext_alloc w _).mono hbase).trans (Below.grown (Below.refl base _) h2 (by simp; omega) (fun k hk => (World.ownsRow.lt hown k hk).1))
open _root_.Go.Proofs.YtemenlcigengeaaGreatDoor.Nm (cmpV rankP)
theorem sortRange_at (v : Nat → Rat) (pv : Value) (base blk cap n : Nat) (wB w : World) (hC : CmpB pv (cmpV v) base n wB) (hl : Below base wB w) (hO : Own w blk (List.range n)) (hbase : base ≤ blk) (hw : base ≤ w.heap.size) (hn : n < 20) :
    Calls Tryz.prog 82 #[.slice (some ⟨blk, 0, none⟩) n cap, .func (.func 83) #[] #[pv]] w fun e w' => e = .returned (.tuple #[]) ∧ Own w' blk (rankP v n) ∧ Below base wB w' := by
  have hz : (Array.range n).size = n := by simp
  have h := sortInts_at (cmpV v) pv base blk cap n wB (Array.range n) w hC ⟨hl, by simpa using hO, fun i hi => by rw [getElem!_pos _ i hi]; simpa using hi⟩ hbase hw (by omega)
  rw [hz] at h
  refine h.mono ?_
  rintro e w' ⟨he, hs, _⟩
  rw [hz] at hs
  exact ⟨he, hs.own, hs.low⟩
end Nt
end Go.Proofs.YtemenlcigengeaaGreatDoor
