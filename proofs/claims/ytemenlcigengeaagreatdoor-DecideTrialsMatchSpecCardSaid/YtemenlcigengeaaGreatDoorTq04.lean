/- Rows of the call's own, of any number of cells an element; what stays; regions of reads and of calls that only make the memory grow. No program stands in it. Printed by gen_row.py. Own rows of subjects: an element written, the tail cleared, cut short; the subjects that are kept. Printed by gen_trl.py. slices.Clone at subjects; the closures of Trials. Printed by gen_trl.py. -/
import Derived.Test.YtemenlcigengeaaGreatDoorTq01
import Derived.Deep.AppendLies
import Derived.Deep.QuietTactic
import Derived.Shelf.Spec.SlicesInsertGrow
import Derived.Test.YtemenlcigengeaaGreatDoorProg
import Derived.Test.YtemenlcigengeaaGreatDoorTq00
import Derived.Test.YtemenlcigengeaaGreatDoorTq03
import Derived.Test.YtemenlcigengeaaGreatDoorTq05
import Derived.Test.YtemenlcigengeaaGreatDoorTq06
import Derived.Test.YtemenlcigengeaaGreatDoorTq07
import Derived.Test.YtemenlcigengeaaGreatDoorTq08
import Derived.Deep.MidRow
import Derived.Deep.LoopGhost
import Derived.Shelf.SlSortCmp.KitK
namespace Go.Proofs.YtemenlcigengeaaGreatDoor
open Go.RowKit
namespace Rw
open _root_.Go.Proofs.YtemenlcigengeaaGreatDoor.Nt (RH RH.cell RH.box RH.lt RH.new RH.ext RH.fre RH.set RH.other)
theorem own_base {w : World} {base e size n : Nat} {v : Value} {xs : List Value} (h : w.ownsRow base e size v n xs) : ∀ q, v.ownBlock = some q → base ≤ q ∧ q < w.heap.size := by
  intro q hq
  obtain ⟨_, ⟨rfl, _⟩ | ⟨g, cap, cur, rfl, hb, hg, _⟩⟩ := h
  · cases hq
  · cases hq; exact ⟨hb, (Array.getElem?_eq_some_iff.1 hg).1⟩
theorem below_own {B : Nat} {w0 w w' : World} {e size n : Nat} {v : Value} {xs : List Value} (hb : Below B w0 w) (h : w.ownsRow B e size v n xs) (hg : w.grownBy w' v.ownBlock) (hB : B ≤ w.heap.size) : Below B w0 w' := hb.grown hg hB (fun q hq => (own_base h q hq).1)
/-- the blocks from N on that stand in w stand in w' -/
def Kept (N : Nat) (w w' : World) : Prop := ∀ q, N ≤ q → q < w.heap.size → w'.heap[q]? = w.heap[q]?
theorem Kept.grown {N g : Nat} {w w' : World} (h : w.grownBy w' (some g)) (hg : g < N) : Kept N w w' := fun q h1 h2 => h.block q h2 (by simp; omega)
theorem Kept.below {N : Nat} {w w' : World} (h : Below w.heap.size w w') : Kept N w w' := fun q _ h2 => h.block q h2
theorem Kept.trans {N : Nat} {a b c : World} (h : Kept N a b) (hs : a.heap.size ≤ b.heap.size) (k : Kept N b c) : Kept N a c := fun q h1 h2 => (k q h1 (by omega)).trans (h q h1 h2)
/-- it holds as long as the blocks from N on stay -/
def Fresh (N : Nat) (P : World → Prop) (w : World) : Prop := ∀ w', Kept N w w' → P w'
theorem Fresh.kept {N : Nat} {P : World → Prop} {w w' : World} (h : Fresh N P w) (hs : w.heap.size ≤ w'.heap.size) (k : Kept N w w') : Fresh N P w' := fun w'' h'' => h w'' (k.trans hs h'')
theorem Fresh.mono {N M : Nat} {P : World → Prop} {w : World} (h : Fresh N P w) (hN : M ≤ N) : Fresh M P w := fun w' k => h w' (fun q h1 h2 => k q (by omega) h2)
theorem grown_of {w w' : World} (h : Below w.heap.size w w') (r : Option Nat) : w.grownBy w' r := ⟨h.os, h.tape, h.output, h.size, fun k hk _ => h.block k hk⟩
/-- a world grown from w -/
structure GrownOf (w : World) where
  v : World
  b : Below w.heap.size w v
instance (w : World) : Inhabited (GrownOf w) := ⟨⟨w, Below.refl _ _⟩⟩
theorem wp_region_below {P : Program} {id : Nat} {Q : Exit → Act → World → Prop} {a : Act} {w : World} {l : List Oper} (hm : P.follows .mixedOrders = true) (hB : Region.lexB .any l.toArray = true)
    (h : wpQuiet P l.toArray (fun w' => ∃ p : GrownOf w, w' = p.v) (fun a' => ∀ w', (∃ p : GrownOf w, w' = p.v) → Q .normal a' w') l a) : (Code.region id l.toArray true).wp P Q a w :=
  wp_region_quiet (C := fun w' => ∃ p : GrownOf w, w' = p.v) hm hB ⟨⟨w.drew, by go_grown⟩, rfl⟩ (by simpa using h)
theorem callsGrow {P : Program} {f : FuncId} {args : Array Value} {w : World} {p : GrownOf w} {v : Value}
    (h : Calls P f args p.v fun e w' => e = .returned v ∧ Below p.v.heap.size p.v w') : Calls P f args p.v fun e w'' => e = .returned v ∧ ∃ q : GrownOf w, w'' = q.v :=
  h.mono fun _ w' ⟨he, hb⟩ => ⟨he, ⟨w', ext_trans p.b hb⟩, rfl⟩
theorem GrownOf.of {w w' : World} (h : ∃ p : GrownOf w, w' = p.v) : Below w.heap.size w w' := by
  obtain ⟨p, rfl⟩ := h
  exact p.b
/- lists of cells, one for each element -/
def All2 {α β : Type} (R : α → β → Prop) : List α → List β → Prop
  | [], [] => True
  | x :: xs, y :: ys => R x y ∧ All2 R xs ys
  | _, _ => False
theorem All2.length {α β : Type} {R : α → β → Prop} : ∀ {l : List α} {m : List β}, All2 R l m → l.length = m.length
  | [], [], _ => rfl
  | _ :: _, _ :: _, h => by rw [List.length_cons, List.length_cons, All2.length h.2]
  | [], _ :: _, h => h.elim
  | _ :: _, [], h => h.elim
theorem All2.mono {α β : Type} {R S : α → β → Prop} (hRS : ∀ x y, R x y → S x y) : ∀ {l : List α} {m : List β}, All2 R l m → All2 S l m
  | [], [], _ => trivial
  | _ :: _, _ :: _, h => ⟨hRS _ _ h.1, All2.mono hRS h.2⟩
  | [], _ :: _, h => h.elim
  | _ :: _, [], h => h.elim
theorem All2.get {α β : Type} {R : α → β → Prop} : ∀ {l : List α} {m : List β} {i : Nat} {x : α}, All2 R l m → l[i]? = some x → ∃ y, m[i]? = some y ∧ R x y
  | x :: _, y :: _, 0, z, h, e => by
    obtain rfl : x = z := by simpa using e
    exact ⟨y, rfl, h.1⟩
  | _ :: l, _ :: m, i + 1, z, h, e => by
    obtain ⟨w, h1, h2⟩ := All2.get (l := l) (m := m) (i := i) h.2 (by simpa using e)
    exact ⟨w, by simpa using h1, h2⟩
  | [], _, _, _, _, e => by simp at e
  | _ :: _, [], _, _, h, _ => h.elim
theorem All2.set {α β : Type} {R : α → β → Prop} {a : α} {b : β} (hab : R a b) : ∀ {l : List α} {m : List β} (i : Nat), All2 R l m → All2 R (l.set i a) (m.set i b)
  | [], [], _, _ => trivial
  | _ :: _, _ :: _, 0, h => ⟨hab, h.2⟩
  | _ :: _, _ :: _, i + 1, h => ⟨h.1, All2.set hab i h.2⟩
  | [], _ :: _, _, h => h.elim
  | _ :: _, [], _, h => h.elim
theorem All2.append {α β : Type} {R : α → β → Prop} : ∀ {l l' : List α} {m m' : List β}, All2 R l m → All2 R l' m' → All2 R (l ++ l') (m ++ m')
  | [], _, [], _, _, k => k
  | _ :: _, _, _ :: _, _, h, k => ⟨h.1, All2.append h.2 k⟩
  | [], _, _ :: _, _, h, _ => h.elim
  | _ :: _, _, [], _, h, _ => h.elim
theorem All2.take {α β : Type} {R : α → β → Prop} : ∀ {l : List α} {m : List β} (i : Nat), All2 R l m → All2 R (l.take i) (m.take i)
  | _, _, 0, _ => by simp [All2]
  | [], [], _ + 1, _ => trivial
  | _ :: _, _ :: _, i + 1, h => ⟨h.1, All2.take i h.2⟩
  | [], _ :: _, _ + 1, h => h.elim
  | _ :: _, [], _ + 1, h => h.elim
theorem All2.drop {α β : Type} {R : α → β → Prop} : ∀ {l : List α} {m : List β} (i : Nat), All2 R l m → All2 R (l.drop i) (m.drop i)
  | _, _, 0, h => h
  | [], [], _ + 1, _ => trivial
  | _ :: _, _ :: _, i + 1, h => All2.drop i h.2
  | [], _ :: _, _ + 1, h => h.elim
  | _ :: _, [], _ + 1, h => h.elim
/-- it holds as long as no block but g is written -/
def Off (g : Option Nat) (P : World → Prop) (w : World) : Prop := ∀ w', w.grownBy w' g → P w'
theorem Off.next {g : Option Nat} {P : World → Prop} {w w' : World} (h : Off g P w) (hg : w.grownBy w' g) : Off g P w' := fun w'' h'' => h w'' (hg.trans h'')
end Rw
end Go.Proofs.YtemenlcigengeaaGreatDoor
namespace Go.Proofs.YtemenlcigengeaaGreatDoor
open Go.RowKit
namespace Tr
theorem _root_.Go.Proofs.YtemenlcigengeaaGreatDoor.Sl.len_le {w : World} {a : Option Addr} {n c : Nat} {cs : List Value} (s : Sl w (.slice a n c) n cs) : n ≤ 9223372036854775807 := by
  obtain ⟨_, _, hv, h1, h2, _⟩ := s; cases hv; unfold maxLen at h2; omega
/-- a cell of an own row is written -/
theorem own_set {w : World} {base e size n g cap : Nat} {xs : List Value} (h : w.ownsRow base e size (.slice (some ⟨g, 0, none⟩) n cap) n xs) {i : Nat} (_hi : i < xs.length) (x : Value) : (w.setCell ⟨g, i, none⟩ x).ownsRow base e size (.slice (some ⟨g, 0, none⟩) n cap) n (xs.set i x) := by
  obtain ⟨h1, ⟨h2, _⟩ | ⟨g', cap', cur, hv, hb, hg, hn, hm, hs, ht⟩⟩ := h
  · cases h2
  · cases hv
    refine ⟨by rw [List.length_set]; exact h1, .inr ⟨g, cap, cur.setIfInBounds i x, rfl, hb, ?_, hn, hm, by simpa using hs, ?_⟩⟩
    · simp only [World.setCell, Array.getElem?_modify, hg]; simp
    · rw [Array.toList_setIfInBounds, ← ht, List.take_set]
theorem own_cell {w : World} {base e size n g cap : Nat} {xs : List Value} (h : w.ownsRow base e size (.slice (some ⟨g, 0, none⟩) n cap) n xs) {i : Nat} {x : Value} (hi : xs[i]? = some x) : w.cell? ⟨g, i, none⟩ = some x ∧ w.frozen? ⟨g, i, none⟩ = false := by
  obtain ⟨h1, ⟨h2, _⟩ | ⟨g', cap', cur, hv, hb, hg, hn, hm, hs, ht⟩⟩ := h
  · cases h2
  · cases hv
    have hlt := (List.getElem?_eq_some_iff.1 hi).1
    rw [← ht, List.getElem?_take] at hi
    split at hi
    · refine ⟨?_, by simp [World.frozen?, hg]⟩
      simp only [World.cell?, hg]
      simpa using hi
    · cases hi
theorem own_form {w : World} {base e size n : Nat} {v : Value} {xs : List Value} (h : w.ownsRow base e size v n xs) (hn : 0 < n) : ∃ g cap, v = .slice (some ⟨g, 0, none⟩) n cap ∧ base ≤ g := by
  obtain ⟨h1, ⟨rfl, h2⟩ | ⟨g, cap, cur, rfl, hb, _⟩⟩ := h
  · omega
  · exact ⟨g, cap, rfl, hb⟩
theorem sb_cells {w : World} {a : Option Addr} {n c k : Nat} {l : List Sbj} {e : Sbj} (s : Sl w (.slice a n c) n (l.flatMap sbL)) (h : l[k]? = some e) :
    ∃ b o, a = some ⟨b, o, none⟩ ∧ w.cell? ⟨b, o + k * 8, none⟩ = some (.string e.key) ∧ w.cell? ⟨b, o + k * 8 + 1, none⟩ = some (.int .i64 e.time) ∧ w.cell? ⟨b, o + k * 8 + 2, none⟩ = some (.int .i64 e.arm) ∧ w.cell? ⟨b, o + k * 8 + 3, none⟩ = some (.int .i64 e.count) ∧
      w.cell? ⟨b, o + k * 8 + 4, none⟩ = some (.int .i64 e.sum) ∧ w.cell? ⟨b, o + k * 8 + 5, none⟩ = some (.int .i64 e.early) ∧ w.cell? ⟨b, o + k * 8 + 6, none⟩ = some (.int .i64 e.earlySum) ∧ w.cell? ⟨b, o + k * 8 + 7, none⟩ = some (.bool e.closed) := by
  obtain ⟨b, o, ha, hc⟩ := s.elem sbL_len (by omega) h
  exact ⟨b, o, ha, hc 0 _ rfl, hc 1 _ rfl, hc 2 _ rfl, hc 3 _ rfl, hc 4 _ rfl, hc 5 _ rfl, hc 6 _ rfl, hc 7 _ rfl⟩
theorem box_sb {w : World} {b : Nat} {e : Sbj} (h : Box w b (sbC e)) : w.cell? ⟨b, 0, none⟩ = some (.string e.key) ∧ w.cell? ⟨b, 1, none⟩ = some (.int .i64 e.time) ∧ w.cell? ⟨b, 2, none⟩ = some (.int .i64 e.arm) ∧ w.cell? ⟨b, 3, none⟩ = some (.int .i64 e.count) ∧
      w.cell? ⟨b, 4, none⟩ = some (.int .i64 e.sum) ∧ w.cell? ⟨b, 5, none⟩ = some (.int .i64 e.early) ∧ w.cell? ⟨b, 6, none⟩ = some (.int .i64 e.earlySum) ∧ w.cell? ⟨b, 7, none⟩ = some (.bool e.closed) :=
  ⟨h.2 0, h.2 1, h.2 2, h.2 3, h.2 4, h.2 5, h.2 6, h.2 7⟩
theorem take_set_same {α : Type} : ∀ (l : List α) (i : Nat) (x : α), (l.set i x).take i = l.take i
  | [], _, _ => by simp
  | y :: l, 0, x => by simp
  | y :: l, i + 1, x => by simp [take_set_same l i x]
/-- some cells of an own row are written -/
theorem own_setCells {base e size n g cap : Nat} : ∀ (vs : List Value) (o : Nat) (w : World) (xs : List Value), w.ownsRow base e size (.slice (some ⟨g, 0, none⟩) n cap) n xs → o + vs.length ≤ xs.length →
    (w.setCells g o vs).ownsRow base e size (.slice (some ⟨g, 0, none⟩) n cap) n (xs.take o ++ vs ++ xs.drop (o + vs.length))
  | [], o, w, xs, h, _ => by simpa [World.setCells] using h
  | v :: r, o, w, xs, h, hl => by
    have hlt : o < xs.length := by simp at hl; omega
    have ih := own_setCells r (o + 1) _ (xs.set o v) (own_set h hlt v) (by rw [List.length_set]; simp at hl ⊢; omega)
    have e1 : (xs.set o v).take (o + 1) = xs.take o ++ [v] := by
      rw [List.take_succ_eq_append_getElem (by rw [List.length_set]; exact hlt), take_set_same]
      simp
    have e2 : (xs.set o v).drop (o + 1 + r.length) = xs.drop (o + (v :: r).length) := by
      rw [List.drop_set_of_lt (by omega)]
      congr 1; simp; omega
    rw [e1, e2] at ih
    rw [World.setCells]
    simpa using ih
theorem flat_take {α : Type} {f : α → List Value} {sz : Nat} (hs : ∀ x, (f x).length = sz) : ∀ (l : List α) (i : Nat), (l.flatMap f).take (i * sz) = (l.take i).flatMap f
  | [], i => by simp
  | x :: l, 0 => by simp
  | x :: l, i + 1 => by
    rw [List.flatMap_cons, List.take_succ_cons, List.flatMap_cons, List.take_append, hs, List.take_of_length_le (by rw [hs, Nat.add_mul]; omega), show (i + 1) * sz - sz = i * sz by rw [Nat.add_mul]; omega, flat_take hs l i]
theorem flat_drop {α : Type} {f : α → List Value} {sz : Nat} (hs : ∀ x, (f x).length = sz) : ∀ (l : List α) (i : Nat), (l.flatMap f).drop (i * sz) = (l.drop i).flatMap f
  | [], i => by simp
  | x :: l, 0 => by simp
  | x :: l, i + 1 => by
    rw [List.flatMap_cons, List.drop_succ_cons, List.drop_append, hs, List.drop_eq_nil_of_le (by rw [hs, Nat.add_mul]; omega), List.nil_append, show (i + 1) * sz - sz = i * sz by rw [Nat.add_mul]; omega, flat_drop hs l i]
theorem list_set {α : Type} (l : List α) (i : Nat) (x : α) (h : i < l.length) : l.set i x = l.take i ++ x :: l.drop (i + 1) := by
  rw [List.set_eq_take_append_cons_drop, if_pos h]
/-- an element of an own row is written -/
theorem own_put {α : Type} {f : α → List Value} {sz : Nat} (hs : ∀ x, (f x).length = sz) {w : World} {base e n g cap : Nat} {U : List α} (h : w.ownsRow base e sz (.slice (some ⟨g, 0, none⟩) n cap) n (U.flatMap f)) {i : Nat} (hi : i < U.length) (u : α) :
    (w.setCells g (i * sz) (f u)).ownsRow base e sz (.slice (some ⟨g, 0, none⟩) n cap) n ((U.set i u).flatMap f) := by
  have hle : i * sz + sz ≤ U.length * sz := by have := Nat.mul_le_mul_right sz (show i + 1 ≤ U.length by omega); rw [Nat.add_mul] at this; omega
  have h1 := own_setCells (f u) (i * sz) w _ h (by rw [hs, flat_length hs]; omega)
  rw [hs, flat_take hs, show i * sz + sz = (i + 1) * sz by rw [Nat.add_mul]; omega, flat_drop hs] at h1
  rw [list_set U i u hi, List.flatMap_append, List.flatMap_cons, ← List.append_assoc]
  exact h1
/-- the front of an own row is an own row -/
theorem own_cut {w : World} {base e size n g cap : Nat} {xs : List Value} (h : w.ownsRow base e size (.slice (some ⟨g, 0, none⟩) n cap) n xs) {i : Nat} (hi : i ≤ n) : w.ownsRow base e size (.slice (some ⟨g, 0, none⟩) i cap) i (xs.take (i * size)) := by
  obtain ⟨h1, ⟨h2, _⟩ | ⟨g', cap', cur, hv, hb, hg, hn, hm, hs, ht⟩⟩ := h
  · cases h2
  · cases hv
    have hle : i * size ≤ n * size := Nat.mul_le_mul_right size hi
    refine ⟨by rw [List.length_take, h1]; omega, .inr ⟨g, cap, cur, rfl, hb, hg, by omega, hm, hs, ?_⟩⟩
    rw [← ht, List.take_take, Nat.min_eq_left hle]
theorem own_there {w : World} {base e size n g cap : Nat} {xs : List Value} (h : w.ownsRow base e size (.slice (some ⟨g, 0, none⟩) n cap) n xs) {o m : Nat} (hm : o + m ≤ xs.length) : w.there g o m := by
  intro j hj
  obtain ⟨x, hx⟩ : ∃ x, xs[o + j]? = some x := ⟨_, List.getElem?_eq_getElem (by omega)⟩
  have := own_cell h hx
  exact ⟨by rw [this.1]; rfl, this.2⟩
theorem below_cells {B b : Nat} (hB : B ≤ b) : ∀ (vs : List Value) (o : Nat) (w : World), Below B w (w.setCells b o vs)
  | [], _, _ => Below.refl _ _
  | v :: r, o, w => ((Below.refl B w).setCell hB v).trans (below_cells hB r (o + 1) (w.setCell ⟨b, o, none⟩ v))
/-- clear at structs: the cells hold zero values; nothing else turns. -/
theorem run_clear_own {P : Program} (w : World) (t e ty : TypeId) (zc : Array Value) (ht : P.underlying t = some (.slice e)) (hv : ∀ w, (zeroValue e).run P w = .ok (.agg zc) w) (h1 : ∀ v ∈ zc.toList, v.oneCell' = true) (hz : 0 < zc.size) (b o n c : Nat) (hn : 0 < n) (hc : w.there b o (n * zc.size)) :
    (Builtin.clear_ #[t] ty #[.slice (some ⟨b, o, none⟩) n c]).run P w = .ok (.tuple #[]) (w.setCells b o (Builtin.zeroCells zc n).toList) := by
  have hl : (Builtin.zeroCells zc n).toList.length = n * zc.size := by simp [size_zeroCells]
  have hst := run_storeCells_cells (P := P) b o (Builtin.zeroCells zc n).toList 0 w (by intro j hj; rw [hl] at hj; rw [Nat.add_zero]; exact (hc j hj).1) (by intro j hj; rw [hl] at hj; rw [Nat.add_zero]; exact (hc j hj).2)
    (by
      intro v hv'
      simp only [Builtin.zeroCells, Array.toList_map, List.mem_map] at hv'
      obtain ⟨i, _, rfl⟩ := hv'
      have hi : i % zc.size < zc.size := Nat.mod_lt _ hz
      refine h1 _ ?_
      first | (rw [getElem!_pos zc _ hi]; exact Array.getElem_mem_toList hi) | (rw [Array.getD_eq_getD_getElem?, Array.getElem?_eq_getElem hi]; exact Array.getElem_mem_toList hi))
  simp only [Nat.add_zero] at hst
  obtain ⟨m, rfl⟩ : ∃ m, n = m + 1 := ⟨n - 1, by omega⟩
  simp [Builtin.clear_, run_underlying ht, hv, Value.cells, hst]
/-- what the search finds -/
def IdxIs (az ao : Int) (U : List Sbj) (z : Int) : Prop := (z = -1 ∧ ∀ s ∈ U, keepB az ao s = true) ∨ ∃ k : Nat, z = k ∧ k < U.length ∧ (∀ j s, j < k → U[j]? = some s → keepB az ao s = true) ∧ ∃ s, U[k]? = some s ∧ keepB az ao s = false
/-- the row while what does not count goes -/
structure DelInv (az ao : Int) (U U' : List Sbj) (i j : Nat) : Prop where
  len : U'.length = U.length
  lt : i < j
  low : U'.take i = (U.take j).filter (keepB az ao)
  high : U'.drop j = U.drop j
theorem DelInv.start {az ao : Int} {U : List Sbj} {k : Nat} {s : Sbj} (h : ∀ j s, j < k → U[j]? = some s → keepB az ao s = true) (hk : U[k]? = some s) (hs : keepB az ao s = false) : DelInv az ao U U k (k + 1) := by
  refine ⟨rfl, by omega, ?_, rfl⟩
  obtain ⟨hl, rfl⟩ := List.getElem?_eq_some_iff.1 hk
  rw [List.take_succ_eq_append_getElem hl, List.filter_append]
  have e1 : (U.take k).filter (keepB az ao) = U.take k := by
    rw [List.filter_eq_self]
    intro x hx
    obtain ⟨i, hi, rfl⟩ := List.getElem_of_mem hx
    rw [List.length_take] at hi
    rw [List.getElem_take]
    exact h i _ (by omega) (List.getElem?_eq_getElem (by omega))
  rw [e1, List.filter_cons_of_neg (by rw [hs]; simp)]
  simp
theorem DelInv.get {az ao : Int} {U U' : List Sbj} {i j : Nat} (h : DelInv az ao U U' i j) : U'[j]? = U[j]? := by
  have e1 := congrArg (fun l : List Sbj => l[0]?) h.high
  simpa using e1
theorem DelInv.skip {az ao : Int} {U U' : List Sbj} {i j : Nat} {s : Sbj} (h : DelInv az ao U U' i j) (hj : U[j]? = some s) (hs : keepB az ao s = false) : DelInv az ao U U' i (j + 1) := by
  obtain ⟨hl, rfl⟩ := List.getElem?_eq_some_iff.1 hj
  refine ⟨h.len, by have := h.lt; omega, ?_, ?_⟩
  · rw [List.take_succ_eq_append_getElem hl, List.filter_append, List.filter_cons_of_neg (by rw [hs]; simp), h.low]
    simp
  · have := congrArg (List.drop 1) h.high
    simpa [List.drop_drop, Nat.add_comm] using this
theorem DelInv.keep {az ao : Int} {U U' : List Sbj} {i j : Nat} {s : Sbj} (h : DelInv az ao U U' i j) (hj : U[j]? = some s) (hs : keepB az ao s = true) : DelInv az ao U (U'.set i s) (i + 1) (j + 1) := by
  obtain ⟨hl, rfl⟩ := List.getElem?_eq_some_iff.1 hj
  have hlt := h.lt
  refine ⟨by rw [List.length_set]; exact h.len, by omega, ?_, ?_⟩
  · have hiu : i < (U'.set i U[j]).length := by rw [List.length_set, h.len]; omega
    rw [List.take_succ_eq_append_getElem hl, List.filter_append, List.filter_cons_of_pos hs, ← h.low, List.take_succ_eq_append_getElem hiu, take_set_same]
    simp
  · rw [List.drop_set_of_lt (by omega)]
    have := congrArg (List.drop 1) h.high
    simpa [List.drop_drop, Nat.add_comm] using this
theorem DelInv.fin {az ao : Int} {U U' : List Sbj} {i j : Nat} (h : DelInv az ao U U' i j) (hj : U.length ≤ j) (hi : i < U.length) : U'.take i = U.filter (keepB az ao) ∧ (U.filter (keepB az ao)).length = i := by
  have e1 := h.low
  rw [List.take_of_length_le hj] at e1
  refine ⟨e1, ?_⟩
  rw [← e1, List.length_take, h.len]; omega
end Tr
end Go.Proofs.YtemenlcigengeaaGreatDoor
namespace Go.Proofs.YtemenlcigengeaaGreatDoor
open Go.RowKit Go.Sort Go.Shelf
namespace Tr
theorem sbj_info : (Tryz.prog.info? 57).map (fun i => (i.zero, i.size, i.bytes)) = some (some (.agg #[.string ⟨#[]⟩, .int .i64 0, .int .i64 0, .int .i64 0, .int .i64 0, .int .i64 0, .int .i64 0, .bool false]), 8, 72) := by kernel_rfl
theorem sbs_one (l : List Sbj) : ∀ u ∈ l.flatMap sbL, u.oneCell' = true := by
  intro u hu
  obtain ⟨x, _, hx⟩ := List.mem_flatMap.1 hu
  exact sbL_one x u hx
theorem cloneS_nil (w : World) : Calls Tryz.prog 29 #[.slice none 0 0] w fun e w' => e = .returned (.slice none 0 0) ∧ w = w' := by
  have hnil := fun wx => Lib.run_eql_slice_nil (P := Tryz.prog) wx 26 57 none 0 0 0 0 Tryz.underlying26
  go_enter Tryz.func29, Tryz.ntmps29
  go_wp2
  go_ret
  exact ⟨rfl, rfl⟩
set_option maxRecDepth 100000 in
theorem cloneS_at (n : Nat) (xs : List Value) (a : Option Addr) (c : Nat) (w : World) (hs : Sl w (.slice a n c) n xs) (hl : xs.length = n * 8) (h1 : ∀ u ∈ xs, u.oneCell' = true) (hb : n * 72 ≤ 140737488355328) :
    Calls Tryz.prog 29 #[.slice a n c] w fun e w' => ∃ a' c', e = .returned (.slice a' n c') ∧ w'.ownsRow w.heap.size 57 8 (.slice a' n c') n xs ∧ Below w.heap.size w w' := by
  have hnil := fun wx => Lib.run_eql_slice_nil (P := Tryz.prog) wx 26 57 a n c 0 0 Tryz.underlying26
  have HB := Lib.hid sbj_info
  cases a with
  | none =>
    obtain ⟨_, _, hv, k1, _, h4, _⟩ := hs
    cases hv
    have hc0 := h4 rfl
    subst hc0
    obtain rfl : n = 0 := by omega
    have hx : xs = [] := List.length_eq_zero_iff.1 (by omega)
    subst hx
    refine (cloneS_nil w).mono ?_
    rintro e w' ⟨rfl, rfl⟩
    exact ⟨none, 0, rfl, World.ownsRow_nil _ _ _ _, Below.refl _ _⟩
  | some p =>
    have hns : n ≤ maxLen := by obtain ⟨_, _, hv, k1, k2, _⟩ := hs; cases hv; omega
    go_enter Tryz.func29, Tryz.ntmps29
    have hown0 : (w.alloc (Obj.cells #[] 57)).ownsRow w.heap.size 57 8 (.slice (some ⟨w.heap.size, 0, none⟩) 0 0) 0 [] := ⟨rfl, .inr ⟨w.heap.size, 0, #[], rfl, Nat.le_refl _, heap_alloc_new w _, Nat.le_refl _, Nat.zero_le _, rfl, rfl⟩⟩
    have hs2 := hs.ext (w' := w.alloc (Obj.cells #[] 57)) (by go_grown)
    go_wp2_with (at_builtin; refine wpList_append_sl rfl _ _ 26 rfl w.heap.size 57 Tryz.underlying26 HB.out rfl (by decide) rfl hown0 rfl hs2 ?c1 h1 ?c2 ?c3 ?c4 ?_; rotate_left 4; intro v2 w2 hown2 hg2 hv2)
    case c1 => exact hl
    case c2 => omega
    case c3 => omega
    case c4 => simp
    have hb2 : Below w.heap.size w w2 := Below.grown (show Below w.heap.size w (w.alloc (Obj.cells #[] 57)) by go_grown) hg2 (by simp) (fun k e => by cases e; exact Nat.le_refl _)
    rw [List.nil_append, Nat.zero_add] at hown2
    obtain ⟨ga, cap, rfl⟩ : ∃ ga cap, v2 = .slice ga n cap := by
      obtain ⟨h1, ⟨rfl, h2⟩ | ⟨g, cap, cur, rfl, _⟩⟩ := hown2
      · exact ⟨none, 0, by rw [h2]⟩
      · exact ⟨_, cap, rfl⟩
    clear hown0 hs2 hg2 hv2
    go_wp2
    go_ret
    exact ⟨ga, cap, rfl, hown2, hb2⟩
set_option maxRecDepth 100000 in
set_option maxHeartbeats 16000000 in
theorem del1_at (s : Sbj) (az ao : Int) (bZ bO : Nat) (w : World) (hZ : w.cell? ⟨bZ, 0, none⟩ = some (.int .i64 az)) (hO : w.cell? ⟨bO, 0, none⟩ = some (.int .i64 ao)) :
    Calls Tryz.prog 30 #[.agg (sbC s), .pointer (some ⟨bZ, 0, none⟩), .pointer (some ⟨bO, 0, none⟩)] w fun e w' => e = .returned (.bool (!keepB az ao s)) ∧ Below w.heap.size w w' := by
  have hlt := World.block_lt_of_cell? _ _ hZ
  have hlt2 := World.block_lt_of_cell? _ _ hO
  obtain ⟨kb, hkb⟩ : ∃ b, (!keepB az ao s) = b := ⟨_, rfl⟩
  rw [hkb]
  have HE : Hid ((!s.closed || (decide (s.arm ≠ az) && decide (s.arm ≠ ao))) = kb) := Lib.hid (by rw [← hkb]; unfold keepB; cases s.closed <;> simp)
  clear hkb
  go_enter Tryz.func30, Tryz.ntmps30
  go_upto_region 1 with (fail)
  refine wp_box1 fun X hszX hbX hX => ?_
  obtain ⟨g0, g1, g2, g3, g4, g5, g6, g7⟩ := box_sb hX
  have hA2 : X.cell? ⟨bZ, 0, none⟩ = some (.int .i64 az) := by rw [hbX.cell (p := ⟨bZ, 0, none⟩) hlt]; exact hZ
  have hA3 : X.cell? ⟨bO, 0, none⟩ = some (.int .i64 ao) := by rw [hbX.cell (p := ⟨bO, 0, none⟩) hlt2]; exact hO
  clear hZ hO
  cases hcl : s.closed <;> by_cases h1 : s.arm = az <;> by_cases h2 : s.arm = ao <;> rw [hcl] at g7 HE <;> go_wp2 <;> (try go_quiet (fail)) <;> (try go_wp2) <;> (try go_ret) <;> exact ⟨by first | exact ret_bool (by rw [← HE.out]; simp [h1, h2]) | (rw [← HE.out]; simp_all), by first | exact hbX | exact below_drewN hbX _ | (first | exact hbX.drew)⟩
/-- The world has grown alone: new blocks, and draws. -/
def Grew (w w' : World) : Prop := Below w.heap.size w w' ∧ w.drawn ≤ w'.drawn
theorem Grew.form {w w' : World} (h : Grew w w') : ∃ q os, w' = grow (w.drewN q) os := by
  obtain ⟨⟨h1, h2, h3, h4, h5⟩, h6⟩ := h
  refine ⟨w'.drawn - w.drawn, w'.heap.extract w.heap.size w'.heap.size, ?_⟩
  cases w with | mk H T D O U =>
  cases w' with | mk H' T' D' O' U' =>
  simp only at h1 h2 h3 h4 h5 h6
  subst h1; subst h2; subst h3
  simp only [grow, World.drewN, World.mk.injEq, true_and]
  refine ⟨?_, by omega, trivial⟩
  apply Array.ext
  · simp; omega
  · intro i hi1 hi2
    by_cases hlt : i < H.size
    · have := h5 i hlt
      rw [Array.getElem?_eq_getElem hi1, Array.getElem?_eq_getElem hlt] at this
      rw [Array.getElem_append_left hlt]
      exact Option.some.inj this
    · rw [Array.getElem_append_right (by omega)]
      simp only [Array.getElem_extract]
      congr 1; omega
abbrev S2D (W : World) (b1 : Nat) (A1 : Array Value) (b2 : Nat) (A2 : Array Value) (w' : World) : Prop :=
  S2 W b1 A1 b2 A2 w' ∧ W.drawn ≤ w'.drawn
theorem S2D.start {W : World} {b1 : Nat} {A1 : Array Value} {b2 : Nat} {A2 : Array Value} (h1 : Box W b1 A1) (h2 : Box W b2 A2) : S2D W b1 A1 b2 A2 W.drew :=
  ⟨S2.start h1 h2, Nat.le_succ _⟩
theorem S2D.alloc {W w1 : World} {b1 : Nat} {A1 : Array Value} {b2 : Nat} {A2 : Array Value} {o : Obj} (h : S2D W b1 A1 b2 A2 w1) (h1 : Box W b1 A1) (h2 : Box W b2 A2) : S2D W b1 A1 b2 A2 (w1.alloc o) :=
  ⟨S2.ext (ext_alloc _ _) h.1 h1 h2, h.2⟩
theorem S2D.grew {w W w1 : World} {b1 : Nat} {A1 : Array Value} {b2 : Nat} {A2 : Array Value} (hw : Grew w W) (h : S2D W b1 A1 b2 A2 w1) : Grew w w1 :=
  ⟨ext_trans hw.1 h.1.1, Nat.le_trans hw.2 h.2⟩
theorem wp_box2d {P : Program} {c : Code} {Q : Exit → Act → World → Prop} {a : Act} {w : World} {A B : Array Value} {t u : TypeId}
    (h : ∀ W, Grew w W → Box W w.heap.size A → Box W (w.heap.size + 1) B → c.wp P Q a W) : c.wp P Q a ((w.alloc (.cells A t)).alloc (.cells B u)) := by
  refine h _ ⟨by go_grown, Nat.le_refl _⟩ ((Box.new _ _ _).ext (by go_grown)) ?_
  have := Box.new (w.alloc (.cells A t)) B u
  simpa using this
set_option maxHeartbeats 2000000 in
theorem ord_g (a b : Sbj) (w : World) : Calls Tryz.prog 32 #[.agg (sbC a), .agg (sbC b)] w fun e w' => e = .returned (.int .i64 (cmpT a b)) ∧ Grew w w' := by
  have HO := Lib.hid (show orI (cmpI a.time b.time) (cmpS a.key b.key) = cmpT a b from rfl)
  go_enter Tryz.func32, Tryz.ntmps32
  go_wp2_with fail
  refine wp_box2d fun W hbW hA hB => ?_
  go_region_held3 (S2D W w.heap.size (sbC a) (w.heap.size + 1) (sbC b)) (first | exact S2D.start hA hB | exact S2D.alloc (by assumption) hA hB | assumption) (first | (go_at_call 35; refine (strings_Compare _ _ _).mono ?_; rintro e w1 ⟨rfl, rfl⟩) | (go_at_call 34; refine (cmp_int _ _ _).mono ?_; rintro e w2 ⟨rfl, rfl⟩) | (go_at_call 33; refine (or_two (cmpI a.time b.time) (cmpS a.key b.key) _ _ (by simp) (by simp)).mono ?_; rintro e w3 ⟨rfl, rfl⟩))
  go_wp2
  go_ret
  exact ⟨ret_int HO.out, S2D.grew hbW (by assumption)⟩
theorem ord_lays (blk off size : Nat) (w : World) : CmpLays Tryz.prog 32 #[] (fun x : TS => sbL x.1) 8 cfT blk off size w := by
  intro m os dk _ x y
  refine (ord_g x.1 y.1 _).mono ?_
  rintro e w' ⟨rfl, hg⟩
  exact ⟨rfl, hg.form⟩
end Tr
end Go.Proofs.YtemenlcigengeaaGreatDoor
