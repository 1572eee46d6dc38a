/- What a region that draws its order holds on to, where it ends in a store into a block of the call's own. No program stands in it. Rows: blocks of which all cells are known; a whole row read, and written. No program stands in it. Rows of the call's own, of any number of cells an element; what stays; regions of reads and of calls that only make the memory grow. No program stands in it. Printed by gen_row.py. -/
import Derived.Test.YtkjgifhklajifaaPm00
import Derived.Deep.RegionHeld3
import Derived.Deep.WholeRow
import Derived.Laws.CopyOwn
import Derived.Deep.AppendLies
import Derived.Deep.QuietTactic
import Derived.Shelf.Spec.SlicesInsertGrow
namespace Go.Proofs.Ytkjgifhklajifaa
open Go.RowKit
theorem ext_alloc (w : World) (o : Obj) : Below w.heap.size w (w.alloc o) := (Below.refl _ _).alloc (Nat.le_refl _) _
/-- A block that may be written. -/
def Fre (W : World) (b : Nat) : Prop := ∀ j, W.frozen? ⟨b, j, none⟩ = false
theorem Fre.ext {W W' : World} {b : Nat} {A : Array Value} (h : Fre W b) (hA : Box W b A) (hb : Below W.heap.size W W') : Fre W' b :=
  fun j => (hb.frozen (p := ⟨b, j, none⟩) hA.1).trans (h j)
theorem Fre.new (w : World) (A : Array Value) (t : TypeId) : Fre (w.alloc (.cells A t)) w.heap.size := fun j => by simp
/-- held: below B the world is W's, and two blocks read as they did -/
abbrev S2R (W : World) (B : Nat) (b1 : Nat) (A1 : Array Value) (b2 : Nat) (A2 : Array Value) (w' : World) : Prop :=
  Below B W w' ∧ (∀ j, w'.cell? ⟨b1, j, none⟩ = A1[j]?) ∧ (∀ j, w'.cell? ⟨b2, j, none⟩ = A2[j]?)
theorem S2R.start {W : World} {B b1 : Nat} {A1 : Array Value} {b2 : Nat} {A2 : Array Value} (h1 : Box W b1 A1) (h2 : Box W b2 A2) : S2R W B b1 A1 b2 A2 W.drew :=
  ⟨(Below.refl _ _).drew, h1.2, h2.2⟩
theorem S2R.ext {W w1 w2 : World} {B b1 : Nat} {A1 : Array Value} {b2 : Nat} {A2 : Array Value} (hb : Below w1.heap.size w1 w2) (h : S2R W B b1 A1 b2 A2 w1) (hB : B ≤ W.heap.size) (h1 : Box W b1 A1) (h2 : Box W b2 A2) : S2R W B b1 A1 b2 A2 w2 :=
  ⟨h.1.trans (hb.mono (Nat.le_trans hB h.1.size)), fun j => (hb.cell (p := ⟨b1, j, none⟩) (Nat.lt_of_lt_of_le h1.1 h.1.size)).trans (h.2.1 j), fun j => (hb.cell (p := ⟨b2, j, none⟩) (Nat.lt_of_lt_of_le h2.1 h.1.size)).trans (h.2.2 j)⟩
theorem S2R.set {W w1 : World} {B b1 : Nat} {A1 : Array Value} {b2 : Nat} {A2 : Array Value} {p : Addr} {v : Value} (h : S2R W B b1 A1 b2 A2 w1) (hp : B ≤ p.block) (h1 : b1 < B) (h2 : b2 < B) : S2R W B b1 A1 b2 A2 (w1.setCell p v) := by
  have hb : Below B w1 (w1.setCell p v) := (Below.refl _ _).setCell hp v
  exact ⟨h.1.trans hb, fun j => (hb.cell (p := ⟨b1, j, none⟩) h1).trans (h.2.1 j), fun j => (hb.cell (p := ⟨b2, j, none⟩) h2).trans (h.2.2 j)⟩

/-- The cells of a list of structs of sz cells each. -/
theorem flat_get {α : Type} {f : α → List Value} {sz : Nat} (hs : ∀ x, (f x).length = sz) : ∀ (l : List α) (k : Nat) (x : α), l[k]? = some x → ∀ j u, (f x)[j]? = some u → (l.flatMap f)[k * sz + j]? = some u
  | [], _, _, h, _, _, _ => by simp at h
  | y :: l, 0, x, h, j, u, hu => by
    obtain rfl : y = x := by simpa using h
    rw [List.flatMap_cons, Nat.zero_mul, Nat.zero_add, List.getElem?_append_left (List.getElem?_eq_some_iff.1 hu).1]; exact hu
  | y :: l, k + 1, x, h, j, u, hu => by
    have ih := flat_get hs l k x (by simpa using h) j u hu
    have e : (k + 1) * sz + j = (f y).length + (k * sz + j) := by rw [hs, Nat.add_mul]; omega
    rw [List.flatMap_cons, e, List.getElem?_append_right (by omega), ← ih]
    congr 1; omega
theorem flat_length {α : Type} {f : α → List Value} {sz : Nat} (hs : ∀ x, (f x).length = sz) (l : List α) : (l.flatMap f).length = l.length * sz := by
  induction l with
  | nil => simp
  | cons y l ih => rw [List.flatMap_cons, List.length_append, hs, ih, List.length_cons, Nat.add_mul]; omega
/-- An element of a slice of structs: where it lies, and its cells. -/
theorem Sl.elem {w : World} {a : Option Addr} {n c k : Nat} {α : Type} {f : α → List Value} {sz : Nat} {l : List α} {x : α} (s : Sl w (.slice a n c) n (l.flatMap f)) (hs : ∀ x, (f x).length = sz) (hsz : 0 < sz) (hx : l[k]? = some x) :
    ∃ b o, a = some ⟨b, o, none⟩ ∧ ∀ j u, (f x)[j]? = some u → w.cell? ⟨b, o + k * sz + j, none⟩ = some u := by
  obtain ⟨a', cap, hv, _, _, _, h3⟩ := s
  obtain ⟨rfl, _, _⟩ : a = a' ∧ True ∧ True := by cases hv; exact ⟨rfl, trivial, trivial⟩
  have h0 : 0 < (f x).length := by rw [hs]; exact hsz
  obtain ⟨b, o, rfl, _⟩ := h3 _ _ (flat_get hs l k x hx 0 _ (List.getElem?_eq_getElem h0))
  refine ⟨b, o, rfl, fun j u hu => ?_⟩
  obtain ⟨b', o', hb, hc⟩ := h3 _ _ (flat_get hs l k x hx j u hu)
  cases hb
  rw [Nat.add_assoc]; exact hc

/-- What the call owns stays owned where nothing that is there turns. -/
theorem ownsRow_ext {w w' : World} {base e size n : Nat} {v : Value} {xs : List Value} (h : w.ownsRow base e size v n xs) (hb : Below w.heap.size w w') : w'.ownsRow base e size v n xs := by
  obtain ⟨h1, h2⟩ := h
  refine ⟨h1, ?_⟩
  rcases h2 with h2 | ⟨g, cap, cur, hv, hbg, hg, h3⟩
  · exact .inl h2
  · refine .inr ⟨g, cap, cur, hv, hbg, ?_, h3⟩
    rw [hb.block g (Array.getElem?_eq_some_iff.1 hg).1]; exact hg
/-- A slice over a new block. -/
theorem Sl.new (w : World) (A : Array Value) (t : TypeId) (n cap : Nat) (h : n ≤ cap) (hm : cap ≤ maxLen) : Sl (w.alloc (.cells A t)) (.slice (some ⟨w.heap.size, 0, none⟩) n cap) n A.toList :=
  ⟨_, _, rfl, h, hm, (fun h => by cases h), fun i x hx => ⟨_, _, rfl, by simpa using hx⟩⟩

theorem S2R.grown {W w1 w2 : World} {B b1 : Nat} {A1 : Array Value} {b2 : Nat} {A2 : Array Value} {row : Option Nat} (hg : w1.grownBy w2 row) (h : S2R W B b1 A1 b2 A2 w1) (hB : B ≤ W.heap.size) (h1 : Box W b1 A1) (h2 : Box W b2 A2)
    (hr : ∀ k, row = some k → B ≤ k ∧ k ≠ b1 ∧ k ≠ b2) : S2R W B b1 A1 b2 A2 w2 := by
  have l1 := Nat.lt_of_lt_of_le h1.1 h.1.size
  have l2 := Nat.lt_of_lt_of_le h2.1 h.1.size
  refine ⟨h.1.grown hg (Nat.le_trans hB h.1.size) (fun k e => (hr k e).1), fun j => ?_, fun j => ?_⟩
  · rw [World.cell?_of_block (w := w1) (hg.block b1 l1 (fun e => (hr b1 e.symm).2.1 rfl))]; exact h.2.1 j
  · rw [World.cell?_of_block (w := w1) (hg.block b2 l2 (fun e => (hr b2 e.symm).2.2 rfl))]; exact h.2.2 j
end Go.Proofs.Ytkjgifhklajifaa
namespace Go.Proofs.Ytkjgifhklajifaa
open Go.RowKit
namespace Nt
/-- the block b is a row of cells A -/
def RH (w : World) (b : Nat) (A : Array Value) (t : TypeId) : Prop := w.heap[b]? = some (.cells A t (0, 0))
theorem RH.lt {w : World} {b : Nat} {A : Array Value} {t : TypeId} (h : RH w b A t) : b < w.heap.size := (Array.getElem?_eq_some_iff.1 h).1
theorem RH.ext {w w' : World} {b : Nat} {A : Array Value} {t : TypeId} (h : RH w b A t) (hb : Below w.heap.size w w') : RH w' b A t := by
  unfold RH; rw [hb.block b h.lt]; exact h
theorem RH.cell {w : World} {b : Nat} {A : Array Value} {t : TypeId} (h : RH w b A t) (j : Nat) : w.cell? ⟨b, j, none⟩ = A[j]? := cell_of_row w b j A t _ h
theorem RH.fre {w : World} {b : Nat} {A : Array Value} {t : TypeId} (h : RH w b A t) (j : Nat) : w.frozen? ⟨b, j, none⟩ = false := by
  unfold RH at h
  simp [World.frozen?, h]
theorem RH.new (w : World) (A : Array Value) (t : TypeId) : RH (w.alloc (.cells A t)) w.heap.size A t := heap_alloc_last w _
theorem RH.row {w : World} {b : Nat} {A : Array Value} {t : TypeId} (h : RH w b A t) (A' : Array Value) : RH (w.setRow b A') b A' t := setRow_heap w b A A' t _ h
theorem RH.row_other {w : World} {b b' : Nat} {A : Array Value} {t : TypeId} (h : RH w b A t) (hne : b ≠ b') (A' : Array Value) : RH (w.setRow b' A') b A t := by
  unfold RH; rw [setRow_other w b' b A' hne]; exact h
theorem RH.set {w : World} {b : Nat} {A : Array Value} {t : TypeId} (h : RH w b A t) (j : Nat) (v : Value) : RH (w.setCell ⟨b, j, none⟩ v) b (A.setIfInBounds j v) t := by
  rw [setCell_eq_setRow w b j A t _ v h]; exact h.row _
theorem RH.set_other {w : World} {b : Nat} {A : Array Value} {t : TypeId} (h : RH w b A t) {p : Addr} (hne : b ≠ p.block) (v : Value) : RH (w.setCell p v) b A t := by
  unfold RH World.setCell
  simp only [Array.getElem?_modify]
  rw [if_neg (fun e => hne e.symm)]; exact h
theorem RH.other {w : World} {b : Nat} {A : Array Value} {t : TypeId} (h : RH w b A t) {p : Addr} (hne : b ≠ p.block) (v : Value) : RH (w.setCell p v) b A t := h.set_other hne v
theorem store_cells {P : Program} {w : World} {g : Nat} {t ty : TypeId} {old A : Array Value} (hg : RH w g old t) (hi : (P.info? ty).map (·.size) = some A.size) (ho : old.size = A.size) (h1 : A.all (·.oneCell') = true) :
    (storeCells ⟨g, 0, none⟩ A.toList 0).run P w = .ok () (w.setRow g A) := by
  have := run_storeVar_row (P := P) w g t ty old A hg hi ho h1
  cases hq : P.info? ty with
  | none => simp [hq] at hi
  | some i =>
    have hs : A.size = i.size := by simp [hq] at hi; omega
    simpa [storeVar, sizeOf, typeInfo, hq, Value.cells, hs] using this
theorem RH.box {w : World} {b : Nat} {A : Array Value} {t : TypeId} (h : RH w b A t) : Box w b A := ⟨h.lt, fun j => h.cell j⟩
def _root_.Go.TypeDesc.isStruct : TypeDesc → Bool
  | .struct _ => true
  | _ => false
end Nt
open Nt (RH RH.cell RH.other)
end Go.Proofs.Ytkjgifhklajifaa
namespace Go.Proofs.Ytkjgifhklajifaa
open Go.RowKit
namespace Rw
open _root_.Go.Proofs.Ytkjgifhklajifaa.Nt (RH RH.cell RH.box RH.lt RH.new RH.ext RH.fre RH.set RH.other)
/-- an aggregate read where its cells lie -/
theorem run_loadVar_agg {P : Program} {w : World} {b o : Nat} {ty : TypeId} {L : List Value} {d : TypeDesc} (h : ∀ (j : Nat) (v : Value), L[j]? = some v → w.cell? ⟨b, o + j, none⟩ = some v)
    (hu : P.underlying ty = some d) (hd : d.isStruct = true) (hi : (P.info? ty).map (·.size) = some L.length) : (loadVar ty ⟨b, o, none⟩).run P w = .ok (.agg L.toArray) w := by
  have hl : (loadCells ⟨b, o, none⟩ L.length).run P w = .ok L.toArray w := run_loadCells_list (P := P) w ⟨b, o, none⟩ L (fun j v hv => by rw [add_spot]; exact h j v hv)
  cases hq : P.info? ty with
  | none => simp [hq] at hi
  | some i =>
    have hs : i.size = L.length := by simpa [hq] using hi
    have hagg : (isAgg ty).run P w = .ok true w := by
      unfold isAgg
      rw [Sem.run_bind, run_underlying hu w]
      cases d <;> simp_all [TypeDesc.isStruct]
    simp [loadVar, Sem.run_bind, hagg, sizeOf, typeInfo, hq, hs, hl]
theorem wpList_load_agg {P : Program} {ops : Array Oper} {rest : List Oper} {o : Oper} {a : Act} {w : World} {Q : Exit → Act → World → Prop} (hgd : o.guard = none) (ty : TypeId) (x : Operand) (ho : o.op = .load ty x)
    (b f : Nat) (hx : a.eval x = .pointer (some ⟨b, f, none⟩)) (L : List Value) (hc : ∀ (j : Nat) (v : Value), L[j]? = some v → w.cell? ⟨b, f + j, none⟩ = some v) (d : TypeDesc)
    (hu : P.underlying ty = some d) (hd : d.isStruct = true) (hi : (P.info? ty).map (·.size) = some L.length)
    (h : wpList P ops Q rest (a.put o.dst (.agg L.toArray)) w) : wpList P ops Q (o :: rest) a w :=
  wpList_plain hgd fun K hK => by
    have : o.wp P a w K Q := by
      unfold Oper.wp execOp
      simp only [ho, hx, Instr.loadAt, Instr.sureAddr, Sem.run_bind, Sem.run_pure, Result.andThen_ok, run_loadVar_agg hc hu hd hi]
      exact hK _ _ h
    exact this
/-- a new block that has been written -/
theorem wp_stored {P : Program} {c : Code} {Q : Exit → Act → World → Prop} {a : Act} {w : World} {Z A : Array Value} {t : TypeId}
    (h : ∀ W, Below w.heap.size w W → RH W w.heap.size A t → c.wp P Q a W) : c.wp P Q a ((w.alloc (.cells Z t)).setRow w.heap.size A) :=
  h _ (below_setRow (ext_alloc w _) (Nat.le_refl _) _) ((Nt.RH.new w Z t).row A)
/-- cells written one behind the other into a list -/
def setL : List Value → Nat → List Value → List Value
  | xs, _, [] => xs
  | xs, o, v :: r => setL (xs.set o v) (o + 1) r
theorem setL_length : ∀ (vs : List Value) (xs : List Value) (o : Nat), (setL xs o vs).length = xs.length
  | [], _, _ => rfl
  | v :: r, xs, o => by unfold setL; rw [setL_length r]; simp
theorem setL_mid : ∀ (vs A B T : List Value), B.length = vs.length → setL (A ++ (B ++ T)) A.length vs = A ++ (vs ++ T)
  | [], A, B, T, h => by
    have : B = [] := List.length_eq_zero_iff.1 h
    subst this; rfl
  | v :: r, A, B, T, h => by
    cases B with
    | nil => cases h
    | cons b B =>
      unfold setL
      have e : (A ++ (b :: B ++ T)).set A.length v = (A ++ [v]) ++ (B ++ T) := by
        rw [List.set_append_right _ _ (Nat.le_refl _)]; simp
      have h2 := setL_mid r (A ++ [v]) B T (by simpa using h)
      rw [e, show A.length + 1 = (A ++ [v]).length by simp, h2]; simp
theorem ownsRow_setCells {base : Nat} {e : TypeId} {size g n cap : Nat} : ∀ (vs : List Value) (o : Nat) (w : World) (xs : List Value), w.ownsRow base e size (.slice (some ⟨g, 0, none⟩) n cap) n xs →
    (w.setCells g o vs).ownsRow base e size (.slice (some ⟨g, 0, none⟩) n cap) n (setL xs o vs) ∧ w.grownBy (w.setCells g o vs) (some g)
  | [], _, w, _, h => ⟨h, World.grownBy.refl w _⟩
  | v :: r, o, w, xs, h => by
    have h1 := h.stored o v
    have h2 := ownsRow_setCells r (o + 1) _ _ h1.1
    exact ⟨h2.1, h1.2.trans h2.2⟩
theorem own_base {w : World} {base e size n : Nat} {v : Value} {xs : List Value} (h : w.ownsRow base e size v n xs) : ∀ q, v.ownBlock = some q → base ≤ q ∧ q < w.heap.size := by
  intro q hq
  obtain ⟨_, ⟨rfl, _⟩ | ⟨g, cap, cur, rfl, hb, hg, _⟩⟩ := h
  · cases hq
  · cases hq; exact ⟨hb, (Array.getElem?_eq_some_iff.1 hg).1⟩
theorem own_mono {w : World} {base base' e size n : Nat} {v : Value} {xs : List Value} (h : w.ownsRow base e size v n xs) (hb : base' ≤ base) : w.ownsRow base' e size v n xs := by
  obtain ⟨h1, h2 | ⟨g, cap, cur, hv, hB, hr⟩⟩ := h
  · exact ⟨h1, .inl h2⟩
  · exact ⟨h1, .inr ⟨g, cap, cur, hv, Nat.le_trans hb hB, hr⟩⟩
theorem rh_grown {w w' : World} {b : Nat} {A : Array Value} {t : TypeId} {r : Option Nat} (h : RH w b A t) (hg : w.grownBy w' r) (hr : some b ≠ r) : RH w' b A t := by
  unfold RH; rw [hg.block b h.lt hr]; exact h
/-- the blocks from N on that stand in w stand in w' -/
def Kept (N : Nat) (w w' : World) : Prop := ∀ q, N ≤ q → q < w.heap.size → w'.heap[q]? = w.heap[q]?
theorem Kept.grown {N g : Nat} {w w' : World} (h : w.grownBy w' (some g)) (hg : g < N) : Kept N w w' := fun q h1 h2 => h.block q h2 (by simp; omega)
theorem Kept.below {N : Nat} {w w' : World} (h : Below w.heap.size w w') : Kept N w w' := fun q _ h2 => h.block q h2
theorem Kept.trans {N : Nat} {a b c : World} (h : Kept N a b) (hs : a.heap.size ≤ b.heap.size) (k : Kept N b c) : Kept N a c := fun q h1 h2 => (k q h1 (by omega)).trans (h q h1 h2)
/-- it holds as long as the blocks from N on stay -/
def Fresh (N : Nat) (P : World → Prop) (w : World) : Prop := ∀ w', Kept N w w' → P w'
theorem Fresh.now {N : Nat} {P : World → Prop} {w : World} (h : Fresh N P w) : P w := h w (fun _ _ _ => rfl)
theorem Fresh.kept {N : Nat} {P : World → Prop} {w w' : World} (h : Fresh N P w) (hs : w.heap.size ≤ w'.heap.size) (k : Kept N w w') : Fresh N P w' := fun w'' h'' => h w'' (k.trans hs h'')
theorem Fresh.mono {N M : Nat} {P : World → Prop} {w : World} (h : Fresh N P w) (hN : M ≤ N) : Fresh M P w := fun w' k => h w' (fun q h1 h2 => k q (by omega) h2)
theorem fresh_own {w : World} {N e size n : Nat} {v : Value} {xs : List Value} (h : w.ownsRow N e size v n xs) : Fresh N (fun w => Sl w v n xs) w := fun w' k => by
  obtain ⟨h1, h2 | ⟨g, cap, cur, hv, hB, hg, hr⟩⟩ := h
  · exact Sl.ofOwn (⟨h1, .inl h2⟩ : w'.ownsRow N e size v n xs)
  · exact Sl.ofOwn (⟨h1, .inr ⟨g, cap, cur, hv, hB, (k g hB (Array.getElem?_eq_some_iff.1 hg).1).trans hg, hr⟩⟩ : w'.ownsRow N e size v n xs)
/-- a value written into the middle of a row of which all cells are known -/
theorem wpList_store_in {P : Program} {ops : Array Oper} {rest : List Oper} {op : Oper} {a : Act} {w : World} {Q : Exit → Act → World → Prop} (hgd : op.guard = none) (ty : TypeId) (x y : Operand) (ho : op.op = .store ty x y)
    (b o : Nat) (v : Value) (L : List Value) (hx : a.eval x = .pointer (some ⟨b, o, none⟩)) (hy : a.eval y = v) (hv : v.cells = L.toArray) (A : List Value) (t : TypeId) (hR : RH w b A.toArray t)
    (hfit : o + L.length ≤ A.length) (hi : (P.info? ty).map (·.size) = some L.length) (h1 : ∀ u ∈ L, u.oneCell' = true)
    (h : ∀ w', RH w' b (setL A o L).toArray t → w.grownBy w' (some b) → wpList P ops Q rest (a.put op.dst undef) w') : wpList P ops Q (op :: rest) a w := by
  have key : ∀ (L : List Value) (o : Nat) (w : World) (A : List Value), RH w b A.toArray t → RH (w.setCells b o L) b (setL A o L).toArray t ∧ w.grownBy (w.setCells b o L) (some b) := by
    intro L
    induction L with
    | nil => intro o w A h; exact ⟨h, World.grownBy.refl w _⟩
    | cons v r ih =>
      intro o w A h
      have h2 := h.set o v
      have e : A.toArray.setIfInBounds o v = (A.set o v).toArray := by simp
      rw [e] at h2
      obtain ⟨k1, k2⟩ := ih (o + 1) _ _ h2
      have k0 : w.grownBy (w.setCell ⟨b, o, none⟩ v) (some b) := ⟨rfl, rfl, rfl, by simp, fun k _ hk => heap_setCell_other w ⟨b, o, none⟩ k v (fun e => hk (by simp [e]))⟩
      exact ⟨k1, k0.trans k2⟩
  obtain ⟨k1, k2⟩ := key L o w A hR
  refine wpList_plain hgd fun K hK => ?_
  have hst : (Instr.storeAt ty (.pointer (some ⟨b, o, none⟩)) v).run P w = .ok () (w.setCells b o L) := by
    have := run_storeCells_cells (P := P) b o L 0 w (fun j hj => by
      rw [hR.cell, List.getElem?_toArray, List.getElem?_eq_getElem (by omega)]; rfl) (fun j hj => hR.fre _) h1
    simp only [Instr.storeAt, Instr.sureAddr, Sem.run_bind, Sem.run_pure, Result.andThen_ok]
    cases hq : P.info? ty with
    | none => simp [hq] at hi
    | some i =>
      have hs : L.length = i.size := by simp [hq] at hi; omega
      simp only [Nat.add_zero] at this
      simp [storeVar, sizeOf, typeInfo, hq, hv, hs, this]
  have : op.wp P a w K Q := by
    unfold Oper.wp execOp
    simp only [ho, hx, hy, Sem.run_bind, hst, Result.andThen_ok, Sem.run_pure]
    exact hK _ _ (h _ k1 k2)
  exact this
theorem grown_below {w w' : World} {b N : Nat} (h : w.grownBy w' (some b)) (hN : N ≤ w.heap.size) (hb : N ≤ b) : Below N w w' :=
  (Below.refl _ _).grown h hN (fun q hq => by cases hq; exact hb)
theorem sl_blocks {w w' : World} {v : Value} {n : Nat} {cs : List Value} (h : Sl w v n cs) (hb : ∀ q, q < w.heap.size → w'.heap[q]? = w.heap[q]?) : Sl w' v n cs := by
  obtain ⟨a, cap, hv, h1, h2, h0, h3⟩ := h
  refine ⟨a, cap, hv, h1, h2, h0, fun i x hx => ?_⟩
  obtain ⟨b, o, ha, hc⟩ := h3 i x hx
  exact ⟨b, o, ha, (World.cell?_of_block (a := ⟨b, o + i, none⟩) (hb b (World.block_lt_of_cell? _ _ hc))).trans hc⟩
theorem kept_set {N b j : Nat} {v : Value} {w w' : World} (h : Kept N w w') (hb : b < N) : Kept N w (w'.setCell ⟨b, j, none⟩ v) := fun q h1 h2 => (heap_setCell_other w' ⟨b, j, none⟩ q v (fun e => by have e' : b = q := e.symm; omega)).trans (h q h1 h2)
/-- copy of rows of k cells an element -/
theorem run_copy_k {P : Program} (w : World) (dT sT ty elem : TypeId) (k b o dLen dCap : Nat) (a : Addr) (sLen sCap : Nat) (cs : List Value)
    (hu : P.underlying dT = some (.slice elem)) (hs : (P.info? elem).map (·.size) = some k) (hn : cs.length = Nat.min sLen dLen * k)
    (hsrc : ∀ j v, cs[j]? = some v → w.cell? (a.add j) = some v) (hc : ∀ j, j < cs.length → (w.cell? ⟨b, o + j, none⟩).isSome = true) (hf : ∀ j, j < cs.length → w.frozen? ⟨b, o + j, none⟩ = false) (h1 : ∀ v ∈ cs, v.oneCell' = true) :
    (Builtin.copy_ #[dT, sT] ty #[.slice (some ⟨b, o, none⟩) dLen dCap, .slice (some a) sLen sCap]).run P w = .ok (goInt (Nat.min sLen dLen)) (w.setCells b o cs) := by
  have hl := run_loadCells_list (P := P) w a cs hsrc
  have hst := run_storeCells_cells (P := P) b o cs 0 w (by simpa using hc) (by simpa using hf) h1
  cases hq : P.info? elem with
  | none => simp [hq] at hs
  | some i =>
    have hi : i.size = k := by simpa [hq] using hs
    simp [Builtin.copy_, run_underlying hu, Builtin.lenOf, Builtin.firstCells, sizeOf, typeInfo, hq, hi, ← hn, hl, hst]
theorem run_copy_own {P : Program} {w : World} {base : Nat} {e : TypeId} {k g n cap : Nat} {ys : List Value} (hown : w.ownsRow base e k (.slice (some ⟨g, 0, none⟩) n cap) n ys) (dT sT ty : TypeId) (o dLen dCap : Nat) (a : Addr) (sLen sCap : Nat) (cs : List Value)
    (hu : P.underlying dT = some (.slice e)) (hs : (P.info? e).map (·.size) = some k) (hn : cs.length = Nat.min sLen dLen * k)
    (hsrc : ∀ j v, cs[j]? = some v → w.cell? (a.add j) = some v) (hfit : o + cs.length ≤ n * k) (h1 : ∀ v ∈ cs, v.oneCell' = true) :
    (Builtin.copy_ #[dT, sT] ty #[.slice (some ⟨g, o, none⟩) dLen dCap, .slice (some a) sLen sCap]).run P w = .ok (goInt (Nat.min sLen dLen)) (w.setCells g o cs) :=
  run_copy_k w dT sT ty e k g o dLen dCap a sLen sCap cs hu hs hn hsrc (fun j hj => by
    have hl : ys.length = n * k := hown.1
    rw [hown.cellAt (o + j) (by omega), List.getElem?_eq_getElem (by omega)]; rfl) (fun j _ => hown.frozenAt _) h1
/-- one more element of a row's block in sight -/
theorem own_more {w : World} {base : Nat} {e : TypeId} {k g n cap : Nat} {xs : List Value} (h : w.ownsRow base e k (.slice (some ⟨g, 0, none⟩) n cap) n xs) (hc : n + 1 ≤ cap) :
    ∃ sp : List Value, sp.length = k ∧ w.ownsRow base e k (.slice (some ⟨g, 0, none⟩) (n + 1) cap) (n + 1) (xs ++ sp) := by
  obtain ⟨h1, h2⟩ := h
  rcases h2 with ⟨h', _⟩ | ⟨g', cap', cur, h', hb, hg, hn, hm, hs, ht⟩
  · simp at h'
  · simp only [Value.slice.injEq, Option.some.injEq, Addr.mk.injEq, and_true, true_and] at h'
    obtain ⟨rfl, rfl⟩ := h'
    have hle : (n + 1) * k ≤ cur.toList.length := by rw [Array.length_toList, hs]; exact Nat.mul_le_mul_right k hc
    have hnk : (n + 1) * k = n * k + k := Nat.succ_mul n k
    refine ⟨(cur.toList.drop (n * k)).take k, by rw [List.length_take, List.length_drop]; omega, ?_, .inr ⟨g, cap, cur, rfl, hb, hg, hc, hm, hs, ?_⟩⟩
    · rw [List.length_append, List.length_take, List.length_drop, h1]; omega
    · rw [← ht, hnk, List.take_add]
/-- shifted up in place, then the new one laid in -/
theorem ins_shift {k n i : Nat} (xs sp L : List Value) (hx : xs.length = n * k) (hsp : sp.length = k) (hL : L.length = k) (hi : i ≤ n) :
    setL (setL (xs ++ sp) ((i + 1) * k) (xs.drop (i * k))) (i * k) L = xs.take (i * k) ++ L ++ xs.drop (i * k) := by
  have hik : (i + 1) * k = i * k + k := Nat.succ_mul i k
  have hink : i * k ≤ n * k := Nat.mul_le_mul_right k hi
  have hl : (xs ++ sp).length = n * k + k := by rw [List.length_append, hx, hsp]
  have e0 : xs ++ sp = (xs ++ sp).take ((i + 1) * k) ++ ((xs ++ sp).drop ((i + 1) * k) ++ []) := by rw [List.append_nil, List.take_append_drop]
  have la : ((xs ++ sp).take ((i + 1) * k)).length = (i + 1) * k := by rw [List.length_take]; omega
  have h1 := setL_mid (xs.drop (i * k)) ((xs ++ sp).take ((i + 1) * k)) ((xs ++ sp).drop ((i + 1) * k)) [] (by rw [List.length_drop, List.length_drop]; omega)
  rw [la, ← e0, List.append_nil] at h1
  rw [h1]
  have e1 : (xs ++ sp).take ((i + 1) * k) = xs.take (i * k) ++ ((xs ++ sp).drop (i * k)).take k := by
    rw [hik, List.take_add, List.take_append_of_le_length (by omega)]
  have lb : (xs.take (i * k)).length = i * k := by rw [List.length_take]; omega
  have h2 := setL_mid L (xs.take (i * k)) (((xs ++ sp).drop (i * k)).take k) (xs.drop (i * k)) (by rw [List.length_take, List.length_drop]; omega)
  rw [lb] at h2
  rw [e1, List.append_assoc, h2, List.append_assoc]
/-- a new row: the new one laid in, then what stood behind -/
theorem ins_grow {k n i : Nat} (xs Z L : List Value) (hx : xs.length = n * k) (hZ : Z.length = (n + 1 - i) * k) (hL : L.length = k) (hi : i ≤ n) :
    setL (setL (xs.take (i * k) ++ Z) (i * k) L) ((i + 1) * k) (xs.drop (i * k)) = xs.take (i * k) ++ L ++ xs.drop (i * k) := by
  have hik : (i + 1) * k = i * k + k := Nat.succ_mul i k
  have hink : i * k ≤ n * k := Nat.mul_le_mul_right k hi
  have hz : (n + 1 - i) * k = (n - i) * k + k := by rw [show n + 1 - i = (n - i) + 1 by omega, Nat.succ_mul]
  have hni : (n - i) * k = n * k - i * k := Nat.sub_mul n i k
  have lb : (xs.take (i * k)).length = i * k := by rw [List.length_take]; omega
  have h1 := setL_mid L (xs.take (i * k)) (Z.take k) (Z.drop k) (by rw [List.length_take]; omega)
  rw [lb, List.take_append_drop] at h1
  rw [h1]
  have lc : (xs.take (i * k) ++ L).length = (i + 1) * k := by rw [List.length_append, lb]; omega
  have h2 := setL_mid (xs.drop (i * k)) (xs.take (i * k) ++ L) (Z.drop k) [] (by rw [List.length_drop, List.length_drop]; omega)
  rw [lc, List.append_nil, List.append_nil, List.append_assoc] at h2
  rw [h2, List.append_assoc]
/-- a world grown from w -/
structure GrownOf (w : World) where
  v : World
  b : Below w.heap.size w v
instance (w : World) : Inhabited (GrownOf w) := ⟨⟨w, Below.refl _ _⟩⟩
theorem wp_region_below {P : Program} {id : Nat} {Q : Exit → Act → World → Prop} {a : Act} {w : World} {l : List Oper} (hm : P.follows .mixedOrders = true) (hB : Region.lexB .any l.toArray = true)
    (h : wpQuiet P l.toArray (fun w' => ∃ p : GrownOf w, w' = p.v) (fun a' => ∀ w', (∃ p : GrownOf w, w' = p.v) → Q .normal a' w') l a) : (Code.region id l.toArray true).wp P Q a w :=
  wp_region_quiet (C := fun w' => ∃ p : GrownOf w, w' = p.v) hm hB ⟨⟨w.drew, by go_grown⟩, rfl⟩ (by simpa using h)
theorem callsGrow {P : Program} {f : FuncId} {args : Array Value} {w : World} {p : GrownOf w} {v : Value}
    (h : Calls P f args p.v fun e w' => e = .returned v ∧ Below p.v.heap.size p.v w') : Calls P f args p.v fun e w'' => e = .returned v ∧ ∃ q : GrownOf w, w'' = q.v :=
  h.mono fun _ w' ⟨he, hb⟩ => ⟨he, ⟨w', ext_trans p.b hb⟩, rfl⟩
theorem GrownOf.of {w w' : World} (h : ∃ p : GrownOf w, w' = p.v) : Below w.heap.size w w' := by
  obtain ⟨p, rfl⟩ := h
  exact p.b
/- lists of cells, one for each element -/
def All2 {α β : Type} (R : α → β → Prop) : List α → List β → Prop
  | [], [] => True
  | x :: xs, y :: ys => R x y ∧ All2 R xs ys
  | _, _ => False
theorem All2.length {α β : Type} {R : α → β → Prop} : ∀ {l : List α} {m : List β}, All2 R l m → l.length = m.length
  | [], [], _ => rfl
  | _ :: _, _ :: _, h => by rw [List.length_cons, List.length_cons, All2.length h.2]
  | [], _ :: _, h => h.elim
  | _ :: _, [], h => h.elim
theorem All2.mono {α β : Type} {R S : α → β → Prop} (hRS : ∀ x y, R x y → S x y) : ∀ {l : List α} {m : List β}, All2 R l m → All2 S l m
  | [], [], _ => trivial
  | _ :: _, _ :: _, h => ⟨hRS _ _ h.1, All2.mono hRS h.2⟩
  | [], _ :: _, h => h.elim
  | _ :: _, [], h => h.elim
theorem All2.get {α β : Type} {R : α → β → Prop} : ∀ {l : List α} {m : List β} {i : Nat} {x : α}, All2 R l m → l[i]? = some x → ∃ y, m[i]? = some y ∧ R x y
  | x :: _, y :: _, 0, z, h, e => by
    obtain rfl : x = z := by simpa using e
    exact ⟨y, rfl, h.1⟩
  | _ :: l, _ :: m, i + 1, z, h, e => by
    obtain ⟨w, h1, h2⟩ := All2.get (l := l) (m := m) (i := i) h.2 (by simpa using e)
    exact ⟨w, by simpa using h1, h2⟩
  | [], _, _, _, _, e => by simp at e
  | _ :: _, [], _, _, h, _ => h.elim
theorem All2.set {α β : Type} {R : α → β → Prop} {a : α} {b : β} (hab : R a b) : ∀ {l : List α} {m : List β} (i : Nat), All2 R l m → All2 R (l.set i a) (m.set i b)
  | [], [], _, _ => trivial
  | _ :: _, _ :: _, 0, h => ⟨hab, h.2⟩
  | _ :: _, _ :: _, i + 1, h => ⟨h.1, All2.set hab i h.2⟩
  | [], _ :: _, _, h => h.elim
  | _ :: _, [], _, h => h.elim
theorem All2.append {α β : Type} {R : α → β → Prop} : ∀ {l l' : List α} {m m' : List β}, All2 R l m → All2 R l' m' → All2 R (l ++ l') (m ++ m')
  | [], _, [], _, _, k => k
  | _ :: _, _, _ :: _, _, h, k => ⟨h.1, All2.append h.2 k⟩
  | [], _, _ :: _, _, h, _ => h.elim
  | _ :: _, _, [], _, h, _ => h.elim
theorem All2.take {α β : Type} {R : α → β → Prop} : ∀ {l : List α} {m : List β} (i : Nat), All2 R l m → All2 R (l.take i) (m.take i)
  | _, _, 0, _ => by simp [All2]
  | [], [], _ + 1, _ => trivial
  | _ :: _, _ :: _, i + 1, h => ⟨h.1, All2.take i h.2⟩
  | [], _ :: _, _ + 1, h => h.elim
  | _ :: _, [], _ + 1, h => h.elim
theorem All2.drop {α β : Type} {R : α → β → Prop} : ∀ {l : List α} {m : List β} (i : Nat), All2 R l m → All2 R (l.drop i) (m.drop i)
  | _, _, 0, h => h
  | [], [], _ + 1, _ => trivial
  | _ :: _, _ :: _, i + 1, h => All2.drop i h.2
  | [], _ :: _, _ + 1, h => h.elim
  | _ :: _, [], _ + 1, h => h.elim
theorem fl_len {k : Nat} : ∀ {E : List (List Value)}, (∀ c ∈ E, c.length = k) → E.flatten.length = E.length * k
  | [], _ => by simp
  | c :: r, h => by
    rw [List.flatten_cons, List.length_append, h c (by simp), fl_len (fun c hc => h c (by simp [hc])), List.length_cons, Nat.succ_mul]; omega
theorem fl_split {E : List (List Value)} {i : Nat} {c : List Value} (h : E[i]? = some c) : E.flatten = (E.take i).flatten ++ (c ++ (E.drop (i + 1)).flatten) := by
  obtain ⟨hi, rfl⟩ := List.getElem?_eq_some_iff.1 h
  conv => lhs; rw [← List.take_append_drop i E, List.drop_eq_getElem_cons hi]
  rw [List.flatten_append, List.flatten_cons]
theorem fl_at {k : Nat} {E : List (List Value)} (hk : ∀ c ∈ E, c.length = k) {i j : Nat} {c : List Value} {v : Value} (h : E[i]? = some c) (hv : c[j]? = some v) : E.flatten[i * k + j]? = some v := by
  have hi := (List.getElem?_eq_some_iff.1 h).1
  have hj := (List.getElem?_eq_some_iff.1 hv).1
  have l1 : ((E.take i).flatten).length = i * k := by rw [fl_len (fun c hc => hk c (List.mem_of_mem_take hc)), List.length_take, Nat.min_eq_left (by omega)]
  rw [fl_split h, List.getElem?_append_right (by omega), l1, show i * k + j - i * k = j by omega, List.getElem?_append_left hj]
  exact hv
theorem fl_put {k : Nat} {E : List (List Value)} (hk : ∀ c ∈ E, c.length = k) {i : Nat} {c : List Value} (hi : i < E.length) (hc : c.length = k) : setL E.flatten (i * k) c = (E.set i c).flatten := by
  have h := List.getElem?_eq_getElem hi
  have l1 : ((E.take i).flatten).length = i * k := by rw [fl_len (fun c hc => hk c (List.mem_of_mem_take hc)), List.length_take, Nat.min_eq_left (by omega)]
  have h1 := setL_mid c (E.take i).flatten E[i] (E.drop (i + 1)).flatten (by rw [hk _ (List.getElem_mem hi), hc])
  rw [l1] at h1
  rw [fl_split h, h1, List.set_eq_take_append_cons_drop, if_pos hi, List.flatten_append, List.flatten_cons]
theorem fl_take {k : Nat} {E : List (List Value)} (hk : ∀ c ∈ E, c.length = k) (i : Nat) : E.flatten.take (i * k) = (E.take i).flatten ∧ E.flatten.drop (i * k) = (E.drop i).flatten := by
  have e0 : E.flatten = (E.take i).flatten ++ (E.drop i).flatten := by rw [← List.flatten_append, List.take_append_drop]
  by_cases h : i ≤ E.length
  · have l1 : ((E.take i).flatten).length = i * k := by rw [fl_len (fun c hc => hk c (List.mem_of_mem_take hc)), List.length_take, Nat.min_eq_left h]
    rw [e0]
    exact ⟨List.take_left' l1, List.drop_left' l1⟩
  · have l1 := fl_len hk
    have hle : E.length * k ≤ i * k := Nat.mul_le_mul_right k (by omega)
    rw [List.take_of_length_le (by omega), List.drop_eq_nil_of_le (by omega), List.take_of_length_le (by omega), List.drop_eq_nil_of_le (by omega)]
    exact ⟨rfl, rfl⟩
/-- it holds as long as no block but g is written -/
def Off (g : Option Nat) (P : World → Prop) (w : World) : Prop := ∀ w', w.grownBy w' g → P w'
theorem Off.now {g : Option Nat} {P : World → Prop} {w : World} (h : Off g P w) : P w := h w (World.grownBy.refl w g)
theorem Off.next {g : Option Nat} {P : World → Prop} {w w' : World} (h : Off g P w) (hg : w.grownBy w' g) : Off g P w' := fun w'' h'' => h w'' (hg.trans h'')
theorem Off.old {w0 w : World} {g : Nat} {P : World → Prop} (h : ∀ w', Below w0.heap.size w0 w' → P w') (hb : Below w0.heap.size w0 w) (hg : w0.heap.size ≤ g) : Off (some g) P w := fun w' h' => h w' (hb.grown h' hb.size (fun q hq => by cases hq; exact hg))
end Rw
end Go.Proofs.Ytkjgifhklajifaa
