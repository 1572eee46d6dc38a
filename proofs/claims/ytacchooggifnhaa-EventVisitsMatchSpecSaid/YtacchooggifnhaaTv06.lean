/- slices.Sort at ints: a row of the call's own; cells of an own row, written. Own rows of structs: an element written, the tail cleared, cut short; the subjects that are kept. Tallies$1, slices.IndexFunc, slices.DeleteFunc at subjects. Printed by gen_del.py. Rows: blocks of which all cells are known; a whole row read, and written. No program stands in it. -/
import Derived.Test.YtacchooggifnhaaTv04
import Derived.Sort.OwnSortedInts
import Derived.Test.YtacchooggifnhaaTv05
import Derived.Deep.MidRow
import Derived.Test.YtacchooggifnhaaTv00
import Derived.Deep.WholeRow
import Derived.Laws.CopyOwn
namespace Go.Proofs.Ytacchooggifnhaa
open Go.RowKit Go.Sort Go.Shelf
namespace Ex
def sortZ (l : List Int) : List Int := l.mergeSort fun x y => decide (x ≤ y)
theorem sortZ_perm (l : List Int) : (sortZ l).Perm l := List.mergeSort_perm _ _
theorem sortZ_len (l : List Int) : (sortZ l).length = l.length := List.length_mergeSort _
theorem sortZ_srt (l : List Int) : (sortZ l).Pairwise (· ≤ ·) := by
  have := List.pairwise_mergeSort (le := fun x y : Int => decide (x ≤ y)) (fun a b c => by simp only [decide_eq_true_eq]; exact Int.le_trans) (fun a b => by simp only [Bool.or_eq_true, decide_eq_true_eq]; exact Int.le_total a b) l
  exact this.imp (fun h => by simpa using h)
theorem sortInt_at (base : Nat) (S : List Int) (hl : S.length ≤ 20000) (v : Value) (w : World) (hown : w.ownsRow base 3 1 v S.length (S.map (Value.int .i64))) :
    Calls Try.prog 32 #[v] w fun e w' => e = .returned (.tuple #[]) ∧ w'.ownsRow base 3 1 v S.length ((sortZ S).map (Value.int .i64)) ∧ w.grownBy w' v.ownBlock := by
  obtain ⟨h1, ⟨rfl, h2⟩ | ⟨g, cap, cur, rfl, hb, hg, hn, hm, hs, ht⟩⟩ := hown
  · obtain rfl := List.length_eq_zero_iff.1 h2
    refine (Try.slices_Sort_int_none none 0 w).mono ?_
    rintro e w' ⟨rfl, rfl⟩
    exact ⟨rfl, by simpa [sortZ] using World.ownsRow_nil _ _ _ _, World.grownBy.refl _ _⟩
  · refine (Try.slices_Sort_int g 0 cap S w (holds_of_blockI hg (by simpa using ht)) (Array.getElem?_eq_some_iff.1 hg).1 (by omega)).mono ?_
    rintro e w' ⟨rfl, n, os, rfl⟩
    have h9 := ownsRow_sortedI (ts := sortZ S) (n := n) (os := os) (sortZ_len S) hb hg hn hm (by simpa using hs)
    exact ⟨rfl, h9, grownBy_sortedI _⟩
/-- a cell of an own row is written -/
theorem own_set {w : World} {base e size n g cap : Nat} {xs : List Value} (h : w.ownsRow base e size (.slice (some ⟨g, 0, none⟩) n cap) n xs) {i : Nat} (_hi : i < xs.length) (x : Value) : (w.setCell ⟨g, i, none⟩ x).ownsRow base e size (.slice (some ⟨g, 0, none⟩) n cap) n (xs.set i x) := by
  obtain ⟨h1, ⟨h2, _⟩ | ⟨g', cap', cur, hv, hb, hg, hn, hm, hs, ht⟩⟩ := h
  · cases h2
  · cases hv
    refine ⟨by rw [List.length_set]; exact h1, .inr ⟨g, cap, cur.setIfInBounds i x, rfl, hb, ?_, hn, hm, by simpa using hs, ?_⟩⟩
    · simp only [World.setCell, Array.getElem?_modify, hg]; simp
    · rw [Array.toList_setIfInBounds, ← ht, List.take_set]
theorem own_cell {w : World} {base e size n g cap : Nat} {xs : List Value} (h : w.ownsRow base e size (.slice (some ⟨g, 0, none⟩) n cap) n xs) {i : Nat} {x : Value} (hi : xs[i]? = some x) : w.cell? ⟨g, i, none⟩ = some x ∧ w.frozen? ⟨g, i, none⟩ = false := by
  obtain ⟨h1, ⟨h2, _⟩ | ⟨g', cap', cur, hv, hb, hg, hn, hm, hs, ht⟩⟩ := h
  · cases h2
  · cases hv
    have hlt := (List.getElem?_eq_some_iff.1 hi).1
    rw [← ht, List.getElem?_take] at hi
    split at hi
    · refine ⟨?_, by simp [World.frozen?, hg]⟩
      simp only [World.cell?, hg]
      simpa using hi
    · cases hi
theorem own_form {w : World} {base e size n : Nat} {v : Value} {xs : List Value} (h : w.ownsRow base e size v n xs) (hn : 0 < n) : ∃ g cap, v = .slice (some ⟨g, 0, none⟩) n cap ∧ base ≤ g := by
  obtain ⟨h1, ⟨rfl, h2⟩ | ⟨g, cap, cur, rfl, hb, _⟩⟩ := h
  · omega
  · exact ⟨g, cap, rfl, hb⟩
theorem own_other {w : World} {base base' e e' size size' n n' g cap : Nat} {v : Value} {xs xs' : List Value} (h : w.ownsRow base e size v n xs) (h' : w.ownsRow base' e' size' (.slice (some ⟨g, 0, none⟩) n' cap) n' xs') (hne : e ≠ e') (i : Nat) (x : Value) : (w.setCell ⟨g, i, none⟩ x).ownsRow base e size v n xs := by
  obtain ⟨h1, ⟨rfl, h2⟩ | ⟨g2, cap2, cur, rfl, hb, hg, hn, hm, hs, ht⟩⟩ := h
  · exact ⟨h1, .inl ⟨rfl, h2⟩⟩
  · refine ⟨h1, .inr ⟨g2, cap2, cur, rfl, hb, ?_, hn, hm, hs, ht⟩⟩
    obtain ⟨_, ⟨h3, _⟩ | ⟨g3, cap3, cur3, hv, _, hg3, _⟩⟩ := h'
    · cases h3
    · cases hv
      have hgg : g ≠ g2 := fun e9 => by subst e9; rw [hg] at hg3; injection hg3 with h9; injection h9 with _ h8 _; exact hne h8
      simp only [World.setCell, Array.getElem?_modify]
      rw [if_neg hgg]; exact hg
theorem below_set {B : Nat} {w w' : World} (h : Below B w w') {g i : Nat} (hg : B ≤ g) (x : Value) : Below B w (w'.setCell ⟨g, i, none⟩ x) := h.setCell (p := ⟨g, i, none⟩) hg x
end Ex
end Go.Proofs.Ytacchooggifnhaa
namespace Go.Proofs.Ytacchooggifnhaa
open Go.RowKit
namespace Ex
theorem sb_cells {w : World} {a : Option Addr} {n c k : Nat} {l : List Sbj} {e : Sbj} (s : Sl w (.slice a n c) n (l.flatMap sbL)) (h : l[k]? = some e) :
    ∃ b o, a = some ⟨b, o, none⟩ ∧ w.cell? ⟨b, o + k * 8, none⟩ = some (.string e.key) ∧ w.cell? ⟨b, o + k * 8 + 1, none⟩ = some (.int .i64 e.time) ∧ w.cell? ⟨b, o + k * 8 + 2, none⟩ = some (.int .i64 e.arm) ∧ w.cell? ⟨b, o + k * 8 + 3, none⟩ = some (.int .i64 e.count) ∧
      w.cell? ⟨b, o + k * 8 + 4, none⟩ = some (.int .i64 e.sum) ∧ w.cell? ⟨b, o + k * 8 + 5, none⟩ = some (.int .i64 e.early) ∧ w.cell? ⟨b, o + k * 8 + 6, none⟩ = some (.int .i64 e.earlySum) ∧ w.cell? ⟨b, o + k * 8 + 7, none⟩ = some (.bool e.closed) := by
  obtain ⟨b, o, ha, hc⟩ := s.elem sbL_len (by omega) h
  exact ⟨b, o, ha, hc 0 _ rfl, hc 1 _ rfl, hc 2 _ rfl, hc 3 _ rfl, hc 4 _ rfl, hc 5 _ rfl, hc 6 _ rfl, hc 7 _ rfl⟩
theorem box_sb {w : World} {b : Nat} {e : Sbj} (h : Box w b (sbC e)) : w.cell? ⟨b, 0, none⟩ = some (.string e.key) ∧ w.cell? ⟨b, 1, none⟩ = some (.int .i64 e.time) ∧ w.cell? ⟨b, 2, none⟩ = some (.int .i64 e.arm) ∧ w.cell? ⟨b, 3, none⟩ = some (.int .i64 e.count) ∧
      w.cell? ⟨b, 4, none⟩ = some (.int .i64 e.sum) ∧ w.cell? ⟨b, 5, none⟩ = some (.int .i64 e.early) ∧ w.cell? ⟨b, 6, none⟩ = some (.int .i64 e.earlySum) ∧ w.cell? ⟨b, 7, none⟩ = some (.bool e.closed) :=
  ⟨h.2 0, h.2 1, h.2 2, h.2 3, h.2 4, h.2 5, h.2 6, h.2 7⟩
theorem take_set_same {α : Type} : ∀ (l : List α) (i : Nat) (x : α), (l.set i x).take i = l.take i
  | [], _, _ => by simp
  | y :: l, 0, x => by simp
  | y :: l, i + 1, x => by simp [take_set_same l i x]
/-- some cells of an own row are written -/
theorem own_setCells {base e size n g cap : Nat} : ∀ (vs : List Value) (o : Nat) (w : World) (xs : List Value), w.ownsRow base e size (.slice (some ⟨g, 0, none⟩) n cap) n xs → o + vs.length ≤ xs.length →
    (w.setCells g o vs).ownsRow base e size (.slice (some ⟨g, 0, none⟩) n cap) n (xs.take o ++ vs ++ xs.drop (o + vs.length))
  | [], o, w, xs, h, _ => by simpa [World.setCells] using h
  | v :: r, o, w, xs, h, hl => by
    have hlt : o < xs.length := by simp at hl; omega
    have ih := own_setCells r (o + 1) _ (xs.set o v) (own_set h hlt v) (by rw [List.length_set]; simp at hl ⊢; omega)
    have e1 : (xs.set o v).take (o + 1) = xs.take o ++ [v] := by
      rw [List.take_succ_eq_append_getElem (by rw [List.length_set]; exact hlt), take_set_same]
      simp
    have e2 : (xs.set o v).drop (o + 1 + r.length) = xs.drop (o + (v :: r).length) := by
      rw [List.drop_set_of_lt (by omega)]
      congr 1; simp; omega
    rw [e1, e2] at ih
    rw [World.setCells]
    simpa using ih
theorem flat_take {α : Type} {f : α → List Value} {sz : Nat} (hs : ∀ x, (f x).length = sz) : ∀ (l : List α) (i : Nat), (l.flatMap f).take (i * sz) = (l.take i).flatMap f
  | [], i => by simp
  | x :: l, 0 => by simp
  | x :: l, i + 1 => by
    rw [List.flatMap_cons, List.take_succ_cons, List.flatMap_cons, List.take_append, hs, List.take_of_length_le (by rw [hs, Nat.add_mul]; omega), show (i + 1) * sz - sz = i * sz by rw [Nat.add_mul]; omega, flat_take hs l i]
theorem flat_drop {α : Type} {f : α → List Value} {sz : Nat} (hs : ∀ x, (f x).length = sz) : ∀ (l : List α) (i : Nat), (l.flatMap f).drop (i * sz) = (l.drop i).flatMap f
  | [], i => by simp
  | x :: l, 0 => by simp
  | x :: l, i + 1 => by
    rw [List.flatMap_cons, List.drop_succ_cons, List.drop_append, hs, List.drop_eq_nil_of_le (by rw [hs, Nat.add_mul]; omega), List.nil_append, show (i + 1) * sz - sz = i * sz by rw [Nat.add_mul]; omega, flat_drop hs l i]
theorem list_set {α : Type} (l : List α) (i : Nat) (x : α) (h : i < l.length) : l.set i x = l.take i ++ x :: l.drop (i + 1) := by
  rw [List.set_eq_take_append_cons_drop, if_pos h]
/-- an element of an own row is written -/
theorem own_put {α : Type} {f : α → List Value} {sz : Nat} (hs : ∀ x, (f x).length = sz) {w : World} {base e n g cap : Nat} {U : List α} (h : w.ownsRow base e sz (.slice (some ⟨g, 0, none⟩) n cap) n (U.flatMap f)) {i : Nat} (hi : i < U.length) (u : α) :
    (w.setCells g (i * sz) (f u)).ownsRow base e sz (.slice (some ⟨g, 0, none⟩) n cap) n ((U.set i u).flatMap f) := by
  have hle : i * sz + sz ≤ U.length * sz := by have := Nat.mul_le_mul_right sz (show i + 1 ≤ U.length by omega); rw [Nat.add_mul] at this; omega
  have h1 := own_setCells (f u) (i * sz) w _ h (by rw [hs, flat_length hs]; omega)
  rw [hs, flat_take hs, show i * sz + sz = (i + 1) * sz by rw [Nat.add_mul]; omega, flat_drop hs] at h1
  rw [list_set U i u hi, List.flatMap_append, List.flatMap_cons, ← List.append_assoc]
  exact h1
/-- the front of an own row is an own row -/
theorem own_cut {w : World} {base e size n g cap : Nat} {xs : List Value} (h : w.ownsRow base e size (.slice (some ⟨g, 0, none⟩) n cap) n xs) {i : Nat} (hi : i ≤ n) : w.ownsRow base e size (.slice (some ⟨g, 0, none⟩) i cap) i (xs.take (i * size)) := by
  obtain ⟨h1, ⟨h2, _⟩ | ⟨g', cap', cur, hv, hb, hg, hn, hm, hs, ht⟩⟩ := h
  · cases h2
  · cases hv
    have hle : i * size ≤ n * size := Nat.mul_le_mul_right size hi
    refine ⟨by rw [List.length_take, h1]; omega, .inr ⟨g, cap, cur, rfl, hb, hg, by omega, hm, hs, ?_⟩⟩
    rw [← ht, List.take_take, Nat.min_eq_left hle]
theorem own_there {w : World} {base e size n g cap : Nat} {xs : List Value} (h : w.ownsRow base e size (.slice (some ⟨g, 0, none⟩) n cap) n xs) {o m : Nat} (hm : o + m ≤ xs.length) : w.there g o m := by
  intro j hj
  obtain ⟨x, hx⟩ : ∃ x, xs[o + j]? = some x := ⟨_, List.getElem?_eq_getElem (by omega)⟩
  have := own_cell h hx
  exact ⟨by rw [this.1]; rfl, this.2⟩
theorem below_cells {B b : Nat} (hB : B ≤ b) : ∀ (vs : List Value) (o : Nat) (w : World), Below B w (w.setCells b o vs)
  | [], _, _ => Below.refl _ _
  | v :: r, o, w => ((Below.refl B w).setCell hB v).trans (below_cells hB r (o + 1) (w.setCell ⟨b, o, none⟩ v))
/-- clear at structs: the cells hold zero values; nothing else turns. -/
theorem run_clear_own {P : Program} (w : World) (t e ty : TypeId) (zc : Array Value) (ht : P.underlying t = some (.slice e)) (hv : ∀ w, (zeroValue e).run P w = .ok (.agg zc) w) (h1 : ∀ v ∈ zc.toList, v.oneCell' = true) (hz : 0 < zc.size) (b o n c : Nat) (hn : 0 < n) (hc : w.there b o (n * zc.size)) :
    (Builtin.clear_ #[t] ty #[.slice (some ⟨b, o, none⟩) n c]).run P w = .ok (.tuple #[]) (w.setCells b o (Builtin.zeroCells zc n).toList) := by
  have hl : (Builtin.zeroCells zc n).toList.length = n * zc.size := by simp [size_zeroCells]
  have hst := run_storeCells_cells (P := P) b o (Builtin.zeroCells zc n).toList 0 w (by intro j hj; rw [hl] at hj; rw [Nat.add_zero]; exact (hc j hj).1) (by intro j hj; rw [hl] at hj; rw [Nat.add_zero]; exact (hc j hj).2)
    (by
      intro v hv'
      simp only [Builtin.zeroCells, Array.toList_map, List.mem_map] at hv'
      obtain ⟨i, _, rfl⟩ := hv'
      have hi : i % zc.size < zc.size := Nat.mod_lt _ hz
      refine h1 _ ?_
      first | (rw [getElem!_pos zc _ hi]; exact Array.getElem_mem_toList hi) | (rw [Array.getD_eq_getD_getElem?, Array.getElem?_eq_getElem hi]; exact Array.getElem_mem_toList hi))
  simp only [Nat.add_zero] at hst
  obtain ⟨m, rfl⟩ : ∃ m, n = m + 1 := ⟨n - 1, by omega⟩
  simp [Builtin.clear_, run_underlying ht, hv, Value.cells, hst]
/-- a subject whose arm counts -/
def keepB (arms : Int) (s : Sbj) : Bool := decide (s.arm < arms)
/-- what the search finds -/
def IdxIs (arms : Int) (U : List Sbj) (z : Int) : Prop := (z = -1 ∧ ∀ s ∈ U, keepB arms s = true) ∨ ∃ k : Nat, z = k ∧ k < U.length ∧ (∀ j s, j < k → U[j]? = some s → keepB arms s = true) ∧ ∃ s, U[k]? = some s ∧ keepB arms s = false
/-- the row while what does not count goes -/
structure DelInv (arms : Int) (U U' : List Sbj) (i j : Nat) : Prop where
  len : U'.length = U.length
  lt : i < j
  low : U'.take i = (U.take j).filter (keepB arms)
  high : U'.drop j = U.drop j
theorem DelInv.start {arms : Int} {U : List Sbj} {k : Nat} {s : Sbj} (h : ∀ j s, j < k → U[j]? = some s → keepB arms s = true) (hk : U[k]? = some s) (hs : keepB arms s = false) : DelInv arms U U k (k + 1) := by
  refine ⟨rfl, by omega, ?_, rfl⟩
  obtain ⟨hl, rfl⟩ := List.getElem?_eq_some_iff.1 hk
  rw [List.take_succ_eq_append_getElem hl, List.filter_append]
  have e1 : (U.take k).filter (keepB arms) = U.take k := by
    rw [List.filter_eq_self]
    intro x hx
    obtain ⟨i, hi, rfl⟩ := List.getElem_of_mem hx
    rw [List.length_take] at hi
    rw [List.getElem_take]
    exact h i _ (by omega) (List.getElem?_eq_getElem (by omega))
  rw [e1, List.filter_cons_of_neg (by rw [hs]; simp)]
  simp
theorem DelInv.get {arms : Int} {U U' : List Sbj} {i j : Nat} (h : DelInv arms U U' i j) : U'[j]? = U[j]? := by
  have e1 := congrArg (fun l : List Sbj => l[0]?) h.high
  simpa using e1
theorem DelInv.skip {arms : Int} {U U' : List Sbj} {i j : Nat} {s : Sbj} (h : DelInv arms U U' i j) (hj : U[j]? = some s) (hs : keepB arms s = false) : DelInv arms U U' i (j + 1) := by
  obtain ⟨hl, rfl⟩ := List.getElem?_eq_some_iff.1 hj
  refine ⟨h.len, by have := h.lt; omega, ?_, ?_⟩
  · rw [List.take_succ_eq_append_getElem hl, List.filter_append, List.filter_cons_of_neg (by rw [hs]; simp), h.low]
    simp
  · have := congrArg (List.drop 1) h.high
    simpa [List.drop_drop, Nat.add_comm] using this
theorem DelInv.keep {arms : Int} {U U' : List Sbj} {i j : Nat} {s : Sbj} (h : DelInv arms U U' i j) (hj : U[j]? = some s) (hs : keepB arms s = true) : DelInv arms U (U'.set i s) (i + 1) (j + 1) := by
  obtain ⟨hl, rfl⟩ := List.getElem?_eq_some_iff.1 hj
  have hlt := h.lt
  refine ⟨by rw [List.length_set]; exact h.len, by omega, ?_, ?_⟩
  · have hiu : i < (U'.set i U[j]).length := by rw [List.length_set, h.len]; omega
    rw [List.take_succ_eq_append_getElem hl, List.filter_append, List.filter_cons_of_pos hs, ← h.low, List.take_succ_eq_append_getElem hiu, take_set_same]
    simp
  · rw [List.drop_set_of_lt (by omega)]
    have := congrArg (List.drop 1) h.high
    simpa [List.drop_drop, Nat.add_comm] using this
theorem DelInv.fin {arms : Int} {U U' : List Sbj} {i j : Nat} (h : DelInv arms U U' i j) (hj : U.length ≤ j) (hi : i < U.length) : U'.take i = U.filter (keepB arms) ∧ (U.filter (keepB arms)).length = i := by
  have e1 := h.low
  rw [List.take_of_length_le hj] at e1
  refine ⟨e1, ?_⟩
  rw [← e1, List.length_take, h.len]; omega
end Ex
end Go.Proofs.Ytacchooggifnhaa
namespace Go.Proofs.Ytacchooggifnhaa
open Go.RowKit
namespace Ex
theorem zero_sbj (w : World) : (zeroValue 32).run Try.prog w = .ok (.agg #[.string ⟨#[]⟩, .int .i64 0, .int .i64 0, .int .i64 0, .int .i64 0, .int .i64 0, .int .i64 0, .bool false]) w := by kernel_rfl
theorem sb_size (s : Sbj) : (Try.prog.info? 32).map (·.size) = some (sbC s).size := by
  show (Try.prog.info? 32).map (·.size) = some 8
  kernel_rfl
theorem sb_all (s : Sbj) : (sbC s).all (·.oneCell') = true := by
  have := all_oneCell_toArray (sbL_one s)
  simpa [sbL] using this
set_option maxRecDepth 100000 in
set_option maxHeartbeats 16000000 in
theorem del1_at (s : Sbj) (arms : Int) (bA : Nat) (w : World) (hA : w.cell? ⟨bA, 0, none⟩ = some (.int .i64 arms)) :
    Calls Try.prog 25 #[.agg (sbC s), .pointer (some ⟨bA, 0, none⟩)] w fun e w' => e = .returned (.bool (!keepB arms s)) ∧ Below w.heap.size w w' := by
  have hlt := World.block_lt_of_cell? _ _ hA
  have HE : Hid (decide (s.arm ≥ arms) = !keepB arms s) := Lib.hid (by unfold keepB; rw [Bool.eq_iff_iff]; simp)
  go_enter Try.func25, Try.ntmps25
  go_upto_region 1 with (fail)
  refine wp_box1 fun X hszX hbX hX => ?_
  obtain ⟨g0, g1, g2, g3, g4, g5, g6, g7⟩ := box_sb hX
  have hA2 : X.cell? ⟨bA, 0, none⟩ = some (.int .i64 arms) := by rw [hbX.cell (p := ⟨bA, 0, none⟩) hlt]; exact hA
  go_wp2
  go_ret
  exact ⟨by first | exact ret_bool HE.out.symm | (rw [← HE.out]; rfl) | (rw [← HE.out]; simp [ge_iff_le]), hbX⟩
set_option maxRecDepth 100000 in
set_option maxHeartbeats 16000000 in
theorem idx_at (U : List Sbj) (arms : Int) (bA : Nat) (a : Option Addr) (c : Nat) (w : World) (hA : w.cell? ⟨bA, 0, none⟩ = some (.int .i64 arms)) (hs : Sl w (.slice a U.length c) U.length (U.flatMap sbL)) :
    Calls Try.prog 48 #[.slice a U.length c, .func (.func 25) #[] #[.pointer (some ⟨bA, 0, none⟩)]] w fun e w' => Below w.heap.size w w' ∧ ∃ z, e = .returned (.int .i64 z) ∧ IdxIs arms U z := by
  have hlA := World.block_lt_of_cell? _ _ hA
  have hl := hs.len_le
  have HS := Lib.hid hs
  have HCA := Lib.hid hA
  clear hs hA
  go_enter Try.func48, Try.ntmps48
  go_wp2
  go_loopw [8] (fun i wr => ∃ k : Nat, k ≤ U.length ∧ i = .int .i64 k ∧ Hid (∀ j s, j < k → U[j]? = some s → keepB arms s = true) ∧ Below w.heap.size w wr) (fun i _ => U.length - (intOf i).toNat)
  case atStart => exact ⟨0, by omega, rfl, Lib.hid (fun j s hj => by omega), Below.refl _ _⟩
  case round =>
    obtain ⟨k, hk, rfl, HK, hbr⟩ := hrel
    by_cases hlt : k < U.length
    · have hgk := List.getElem?_eq_getElem hlt
      generalize U[k] = s at hgk
      obtain ⟨b, o, rfl, e0, e1, e2, e3, e4, e5, e6, e7⟩ := sb_cells (HS.out.ext hbr) hgk
      have hk0 : (0 : Int) ≤ (k : Int) := Int.natCast_nonneg _
      have hk1 : (k : Int) < (U.length : Int) := by omega
      have hd1 := del1_at s arms bA wr (by rw [hbr.cell (p := ⟨bA, 0, none⟩) hlA]; exact HCA.out)
      obtain ⟨kb, hkb⟩ : ∃ z, keepB arms s = z := ⟨_, rfl⟩
      rw [hkb] at hd1
      have HKB := Lib.hid hkb
      have HG := Lib.hid hgk
      have HD := Lib.hid hd1
      clear hkb hgk hd1
      go_wp2_with fail
      refine HD.out.mono ?_
      rintro e w2 ⟨rfl, hb2⟩
      have hb3 := hbr.trans (hb2.mono hbr.size)
      clear e0 e1 e2 e3 e4 e5 e6 e7 HD hbr hb2
      cases kb
      · go_wp2
        go_ret
        exact ⟨hb3, k, rfl, .inr ⟨k, rfl, hlt, HK.out, s, HG.out, HKB.out⟩⟩
      · go_wp2
        go_roundw
        case rel => exact ⟨k + 1, by omega, by go_num, Lib.hid (fun j t hj ht => by
          by_cases e9 : j = k
          · subst e9
            rw [HG.out] at ht; injection ht with ht; subst ht; exact HKB.out
          · exact HK.out j t (by omega) ht), hb3⟩
        case measure => simp [intOf]; omega
    · go_wp2
      go_ret
      exact ⟨hbr, -1, rfl, .inl ⟨rfl, fun t ht => by
        obtain ⟨j, hj, rfl⟩ := List.getElem_of_mem ht
        exact HK.out j _ (by omega) (List.getElem?_eq_getElem hj)⟩⟩
set_option maxRecDepth 100000 in
set_option maxHeartbeats 16000000 in
theorem del_at (B : Nat) (U : List Sbj) (h20 : U.length ≤ 20000) (arms : Int) (bA : Nat) (v : Value) (w : World) (hA : w.cell? ⟨bA, 0, none⟩ = some (.int .i64 arms)) (hAB : bA < B) (hB : B ≤ w.heap.size) (hown : w.ownsRow B 32 8 v U.length (U.flatMap sbL)) :
    Calls Try.prog 24 #[v, .func (.func 25) #[] #[.pointer (some ⟨bA, 0, none⟩)]] w fun e w' => Below B w w' ∧ ∃ v' n, e = .returned v' ∧ Hid ((U.filter (keepB arms)).length = n) ∧ w'.ownsRow B 32 8 v' n ((U.filter (keepB arms)).flatMap sbL) := by
  have hlA := World.block_lt_of_cell? _ _ hA
  obtain ⟨aU, cU, rfl⟩ : ∃ a9 c9, v = .slice a9 U.length c9 := by
    rcases hown.2 with ⟨rfl, h9⟩ | ⟨g, cap, cur, rfl, _⟩
    · exact ⟨none, 0, by rw [h9]⟩
    · exact ⟨_, _, rfl⟩
  have HI := Lib.hid (idx_at U arms bA aU cU w hA (Sl.ofOwn hown))
  have HO := Lib.hid hown
  have HCA := Lib.hid hA
  clear hown hA
  go_enter Try.func24, Try.ntmps24
  go_wp2_with fail
  refine HI.out.mono ?_
  rintro e w1 ⟨hb1, z, rfl, hz⟩
  have hoU := ownsRow_ext HO.out hb1
  rcases hz with ⟨rfl, hall⟩ | ⟨k0, rfl, hk0, hlow, s0, hs0, hks0⟩
  · have HP : Hid (Below B w w1 ∧ ∃ v' n, Ending.returned (.slice aU U.length cU) = .returned v' ∧ Hid ((U.filter (keepB arms)).length = n) ∧ w1.ownsRow B 32 8 v' n ((U.filter (keepB arms)).flatMap sbL)) := Lib.hid (by
      have e9 : U.filter (keepB arms) = U := List.filter_eq_self.2 hall
      rw [e9]
      exact ⟨hb1.mono hB, _, _, rfl, rfl, hoU⟩)
    clear hb1 hoU HI HO HCA hall
    go_wp2
    go_ret
    exact HP.out
  · have hbB := hb1.mono hB
    have HK0 : Hid (DelInv arms U U k0 (k0 + 1)) := Lib.hid (DelInv.start hlow hs0 hks0)
    obtain ⟨g, cap, hgv, hgB⟩ := own_form hoU (by omega)
    obtain rfl : aU = some ⟨g, 0, none⟩ := by injection hgv
    obtain rfl : cU = cap := by injection hgv
    have hle0 : k0 + 1 ≤ U.length := hk0
    clear hgv hlow hs0 hks0 hk0 hb1 HI HO
    go_wp2
    go_loopw [5, 6, 7] (fun v5 v6 _ wr => ∃ (i j : Nat) (U' : List Sbj), v5 = .int .i64 i ∧ v6 = .int .i64 j ∧ i < j ∧ j ≤ U.length ∧ Hid (DelInv arms U U' i j) ∧ wr.ownsRow B 32 8 (.slice (some ⟨g, 0, none⟩) U.length cU) U.length (U'.flatMap sbL) ∧ Below B w wr) (fun _ j _ _ => U.length - (intOf j).toNat)
    case atStart => exact ⟨k0, k0 + 1, U, rfl, by go_num, by omega, hle0, HK0, hoU, hbB⟩
    case round =>
      clear hoU hbB HK0 hle0
      obtain ⟨i, j, U', rfl, rfl, hij, hjl, HD, hoR, hbr⟩ := hrel
      have hi0 : (0 : Int) ≤ (i : Int) := Int.natCast_nonneg _
      have hi1 : (i : Int) < (U.length : Int) := by omega
      have hUl : U'.length = U.length := HD.out.len
      by_cases hlt : j < U.length
      · have hgk := List.getElem?_eq_getElem hlt
        generalize U[j] = s at hgk
        have hSR : Sl wr (.slice (some ⟨g, 0, none⟩) U.length cU) U.length (U'.flatMap sbL) := Sl.ofOwn hoR
        obtain ⟨b, o, hbo, e0, e1, e2, e3, e4, e5, e6, e7⟩ := sb_cells hSR (HD.out.get.trans hgk)
        cases hbo
        have hk0 : (0 : Int) ≤ (j : Int) := Int.natCast_nonneg _
        have hk1 : (j : Int) < (U.length : Int) := by omega
        simp only [Nat.zero_add] at e0 e1 e2 e3 e4 e5 e6 e7
        go_upto_region 8 with (fail)
        clear e0 e1 e2 e3 e4 e5 e6 e7 hSR
        refine wp_box1 fun X hszX hbX hX => ?_
        have hoX := ownsRow_ext hoR hbX
        have hbw := hbr.trans (hbX.mono (Nat.le_trans hB hbr.size))
        have hd1 := del1_at s arms bA X (by rw [hbw.cell (p := ⟨bA, 0, none⟩) hAB]; exact HCA.out)
        obtain ⟨kb, hkb⟩ : ∃ z, keepB arms s = z := ⟨_, rfl⟩
        rw [hkb] at hd1
        have HKB := Lib.hid hkb
        have HG := Lib.hid hgk
        have HDL := Lib.hid hd1
        obtain ⟨g0, g1, g2, g3, g4, g5, g6, g7⟩ := box_sb hX
        clear hkb hgk hd1 hoR hbr hszX
        go_wp2_with fail
        refine HDL.out.mono ?_
        rintro e w2 ⟨rfl, hb2⟩
        have hX2 := hX.ext hb2
        have ho2 := ownsRow_ext hoX hb2
        have hbw2 := hbw.trans (hb2.mono (Nat.le_trans hB hbw.size))
        clear hX hoX hbw hbX hb2 g0 g1 g2 g3 g4 g5 g6 g7 HDL
        obtain ⟨g0, g1, g2, g3, g4, g5, g6, g7⟩ := box_sb hX2
        cases kb
        · clear hX2 g0 g1 g2 g3 g4 g5 g6 g7
          go_wp2
          refine And.intro ?_ ?measure
          · repeat apply Exists.intro
            refine And.intro ?_ rfl
            exact ⟨i, j + 1, U', rfl, by go_num, by omega, by omega, Lib.hid (HD.out.skip HG.out HKB.out), ho2, hbw2⟩
          case measure => simp [intOf]; omega
        · have hth : w2.there g (i * 8) (sbC s).size := own_there ho2 (by rw [flat_length (f := sbL) (sz := 8) (fun _ => rfl), hUl, show (sbC s).size = 8 from rfl]; omega)
          have hp3 : (w2.setCells g (i * 8) (sbC s).toList).ownsRow B 32 8 (.slice (some ⟨g, 0, none⟩) U.length cU) U.length ((U'.set i s).flatMap sbL) := own_put (f := sbL) (fun _ => rfl) ho2 (by omega) s
          have hb3 : Below B w (w2.setCells g (i * 8) (sbC s).toList) := hbw2.trans (below_cells hgB _ _ _)
          clear hX2 ho2 hbw2
          go_wp2_with ((with_reducible refine wpList_store_mid ?_ 32 (.tmp 33) (.tmp 32) ?_ g (i * 8) (sbC s) ?_ ?_ hth (sb_size s) (sb_all s) ?_); rfl; rfl; rfl; rfl)
          clear hth g0 g1 g2 g3 g4 g5 g6 g7
          generalize w2.setCells g (i * 8) (sbC s).toList = w3 at hp3 hb3 ⊢
          go_wp2
          refine And.intro ?_ ?measure2
          · repeat apply Exists.intro
            refine And.intro ?_ rfl
            exact ⟨i + 1, j + 1, U'.set i s, by go_num, by go_num, by omega, by omega, Lib.hid (HD.out.keep HG.out HKB.out), hp3, hb3⟩
          case measure2 => simp [intOf]; omega
      · have hfin := HD.out.fin (by omega) (by omega)
        have hcl : ∀ ty, (Builtin.clear_ #[27] ty #[.slice (some ⟨g, i * 8, none⟩) (U.length - i) (cU - i)]).run Try.prog wr = .ok (.tuple #[]) (wr.setCells g (i * 8) (Builtin.zeroCells #[.string ⟨#[]⟩, .int .i64 0, .int .i64 0, .int .i64 0, .int .i64 0, .int .i64 0, .int .i64 0, .bool false] (U.length - i)).toList) := fun ty =>
          run_clear_own wr _ _ ty _ Try.underlying27 zero_sbj (by simp [Value.oneCell']) (by decide) g (i * 8) _ _ (by omega) (own_there hoR (by rw [flat_length (f := sbL) (sz := 8) (fun _ => rfl), hUl, show (#[Value.string ⟨#[]⟩, .int .i64 0, .int .i64 0, .int .i64 0, .int .i64 0, .int .i64 0, .int .i64 0, .bool false] : Array Value).size = 8 from rfl]; omega))
        have hlz : (Builtin.zeroCells #[Value.string ⟨#[]⟩, .int .i64 0, .int .i64 0, .int .i64 0, .int .i64 0, .int .i64 0, .int .i64 0, .bool false] (U.length - i)).toList.length = (U.length - i) * 8 := by simp [size_zeroCells]
        have hz1 := own_cut (own_setCells (Builtin.zeroCells #[Value.string ⟨#[]⟩, .int .i64 0, .int .i64 0, .int .i64 0, .int .i64 0, .int .i64 0, .int .i64 0, .bool false] (U.length - i)).toList (i * 8) wr _ hoR (by rw [hlz, flat_length (f := sbL) (sz := 8) (fun _ => rfl), hUl]; omega)) (i := i) (by omega)
        have hbz : Below B w (wr.setCells g (i * 8) (Builtin.zeroCells #[.string ⟨#[]⟩, .int .i64 0, .int .i64 0, .int .i64 0, .int .i64 0, .int .i64 0, .int .i64 0, .bool false] (U.length - i)).toList) := hbr.trans (below_cells hgB _ _ _)
        rw [List.append_assoc, List.take_append_of_le_length (by rw [List.length_take, flat_length (f := sbL) (sz := 8) (fun _ => rfl), hUl]; omega), List.take_take, Nat.min_self, flat_take (f := sbL) (sz := 8) (fun _ => rfl), hfin.1] at hz1
        generalize (Builtin.zeroCells #[Value.string ⟨#[]⟩, .int .i64 0, .int .i64 0, .int .i64 0, .int .i64 0, .int .i64 0, .int .i64 0, .bool false] (U.length - i)).toList = zs at hcl hz1 hbz
        generalize wr.setCells g (i * 8) zs = w3 at hcl hz1 hbz
        have hlc : U.length ≤ cU := by
          rcases hoR.2 with ⟨h9, _⟩ | ⟨g9, c9, u9, hv9, _, _, h9, _⟩
          · cases h9
          · cases hv9; exact h9
        have HP : Hid (Below B w w3 ∧ ∃ v' n, Ending.returned (.slice (some ⟨g, 0, none⟩) i cU) = .returned v' ∧ Hid ((U.filter (keepB arms)).length = n) ∧ w3.ownsRow B 32 8 v' n ((U.filter (keepB arms)).flatMap sbL)) := Lib.hid ⟨hbz, _, _, rfl, hfin.2, hz1⟩
        clear hz1 hbz hoR hbr HD hfin
        go_wp2
        go_ret
        exact HP.out
end Ex
end Go.Proofs.Ytacchooggifnhaa
namespace Go.Proofs.Ytacchooggifnhaa
open Go.RowKit
namespace Nt
/-- the block b is a row of cells A -/
def RH (w : World) (b : Nat) (A : Array Value) (t : TypeId) : Prop := w.heap[b]? = some (.cells A t (0, 0))
theorem RH.lt {w : World} {b : Nat} {A : Array Value} {t : TypeId} (h : RH w b A t) : b < w.heap.size := (Array.getElem?_eq_some_iff.1 h).1
theorem RH.ext {w w' : World} {b : Nat} {A : Array Value} {t : TypeId} (h : RH w b A t) (hb : Below w.heap.size w w') : RH w' b A t := by
  unfold RH; rw [hb.block b h.lt]; exact h
theorem RH.cell {w : World} {b : Nat} {A : Array Value} {t : TypeId} (h : RH w b A t) (j : Nat) : w.cell? ⟨b, j, none⟩ = A[j]? := cell_of_row w b j A t _ h
theorem RH.new (w : World) (A : Array Value) (t : TypeId) : RH (w.alloc (.cells A t)) w.heap.size A t := heap_alloc_last w _
theorem RH.row {w : World} {b : Nat} {A : Array Value} {t : TypeId} (h : RH w b A t) (A' : Array Value) : RH (w.setRow b A') b A' t := setRow_heap w b A A' t _ h
theorem RH.row_other {w : World} {b b' : Nat} {A : Array Value} {t : TypeId} (h : RH w b A t) (hne : b ≠ b') (A' : Array Value) : RH (w.setRow b' A') b A t := by
  unfold RH; rw [setRow_other w b' b A' hne]; exact h
theorem RH.set {w : World} {b : Nat} {A : Array Value} {t : TypeId} (h : RH w b A t) (j : Nat) (v : Value) : RH (w.setCell ⟨b, j, none⟩ v) b (A.setIfInBounds j v) t := by
  rw [setCell_eq_setRow w b j A t _ v h]; exact h.row _
theorem RH.set_other {w : World} {b : Nat} {A : Array Value} {t : TypeId} (h : RH w b A t) {p : Addr} (hne : b ≠ p.block) (v : Value) : RH (w.setCell p v) b A t := by
  unfold RH World.setCell
  simp only [Array.getElem?_modify]
  rw [if_neg (fun e => hne e.symm)]; exact h
theorem RH.other {w : World} {b : Nat} {A : Array Value} {t : TypeId} (h : RH w b A t) {p : Addr} (hne : b ≠ p.block) (v : Value) : RH (w.setCell p v) b A t := h.set_other hne v
end Nt
open Nt (RH RH.cell RH.other)
end Go.Proofs.Ytacchooggifnhaa
