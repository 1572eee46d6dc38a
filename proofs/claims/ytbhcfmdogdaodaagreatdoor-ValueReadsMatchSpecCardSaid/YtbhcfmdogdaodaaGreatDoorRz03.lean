/- Rows of the call's own, of any number of cells an element; what stays; regions of reads and of calls that only make the memory grow. No program stands in it. Printed by gen_row.py. Values in memory: rows of values and of fields, element by element; what lies in blocks from a number on. No program stands in it but the types' numbers. -/
import Derived.Test.YtbhcfmdogdaodaaGreatDoorRz02
import Derived.Deep.AppendLies
import Derived.Deep.QuietTactic
import Derived.Shelf.Spec.SlicesInsertGrow
import Derived.Test.YtbhcfmdogdaodaaGreatDoorRz01
import Derived.Test.YtbhcfmdogdaodaaGreatDoorProg
namespace Go.Proofs.YtbhcfmdogdaodaaGreatDoor
open Go.RowKit
namespace Rw
open _root_.Go.Proofs.YtbhcfmdogdaodaaGreatDoor.Nt (RH RH.cell RH.box RH.lt RH.new RH.ext RH.fre RH.set RH.other)
/-- an aggregate read where its cells lie -/
theorem run_loadVar_agg {P : Program} {w : World} {b o : Nat} {ty : TypeId} {L : List Value} {d : TypeDesc} (h : ∀ (j : Nat) (v : Value), L[j]? = some v → w.cell? ⟨b, o + j, none⟩ = some v)
    (hu : P.underlying ty = some d) (hd : d.isStruct = true) (hi : (P.info? ty).map (·.size) = some L.length) : (loadVar ty ⟨b, o, none⟩).run P w = .ok (.agg L.toArray) w := by
  have hl : (loadCells ⟨b, o, none⟩ L.length).run P w = .ok L.toArray w := run_loadCells_list (P := P) w ⟨b, o, none⟩ L (fun j v hv => by rw [add_spot]; exact h j v hv)
  cases hq : P.info? ty with
  | none => simp [hq] at hi
  | some i =>
    have hs : i.size = L.length := by simpa [hq] using hi
    have hagg : (isAgg ty).run P w = .ok true w := by
      unfold isAgg
      rw [Sem.run_bind, run_underlying hu w]
      cases d <;> simp_all [TypeDesc.isStruct]
    simp [loadVar, Sem.run_bind, hagg, sizeOf, typeInfo, hq, hs, hl]
theorem wpList_load_agg {P : Program} {ops : Array Oper} {rest : List Oper} {o : Oper} {a : Act} {w : World} {Q : Exit → Act → World → Prop} (hgd : o.guard = none) (ty : TypeId) (x : Operand) (ho : o.op = .load ty x)
    (b f : Nat) (hx : a.eval x = .pointer (some ⟨b, f, none⟩)) (L : List Value) (hc : ∀ (j : Nat) (v : Value), L[j]? = some v → w.cell? ⟨b, f + j, none⟩ = some v) (d : TypeDesc)
    (hu : P.underlying ty = some d) (hd : d.isStruct = true) (hi : (P.info? ty).map (·.size) = some L.length)
    (h : wpList P ops Q rest (a.put o.dst (.agg L.toArray)) w) : wpList P ops Q (o :: rest) a w :=
  wpList_plain hgd fun K hK => by
    have : o.wp P a w K Q := by
      unfold Oper.wp execOp
      simp only [ho, hx, Instr.loadAt, Instr.sureAddr, Sem.run_bind, Sem.run_pure, Result.andThen_ok, run_loadVar_agg hc hu hd hi]
      exact hK _ _ h
    exact this
/-- a new block that has been written -/
theorem wp_stored {P : Program} {c : Code} {Q : Exit → Act → World → Prop} {a : Act} {w : World} {Z A : Array Value} {t : TypeId}
    (h : ∀ W, Below w.heap.size w W → RH W w.heap.size A t → c.wp P Q a W) : c.wp P Q a ((w.alloc (.cells Z t)).setRow w.heap.size A) :=
  h _ (below_setRow (ext_alloc w _) (Nat.le_refl _) _) ((Nt.RH.new w Z t).row A)
/-- cells written one behind the other into a list -/
def setL : List Value → Nat → List Value → List Value
  | xs, _, [] => xs
  | xs, o, v :: r => setL (xs.set o v) (o + 1) r
theorem setL_mid : ∀ (vs A B T : List Value), B.length = vs.length → setL (A ++ (B ++ T)) A.length vs = A ++ (vs ++ T)
  | [], A, B, T, h => by
    have : B = [] := List.length_eq_zero_iff.1 h
    subst this; rfl
  | v :: r, A, B, T, h => by
    cases B with
    | nil => cases h
    | cons b B =>
      unfold setL
      have e : (A ++ (b :: B ++ T)).set A.length v = (A ++ [v]) ++ (B ++ T) := by
        rw [List.set_append_right _ _ (Nat.le_refl _)]; simp
      have h2 := setL_mid r (A ++ [v]) B T (by simpa using h)
      rw [e, show A.length + 1 = (A ++ [v]).length by simp, h2]; simp
theorem ownsRow_setCells {base : Nat} {e : TypeId} {size g n cap : Nat} : ∀ (vs : List Value) (o : Nat) (w : World) (xs : List Value), w.ownsRow base e size (.slice (some ⟨g, 0, none⟩) n cap) n xs →
    (w.setCells g o vs).ownsRow base e size (.slice (some ⟨g, 0, none⟩) n cap) n (setL xs o vs) ∧ w.grownBy (w.setCells g o vs) (some g)
  | [], _, w, _, h => ⟨h, World.grownBy.refl w _⟩
  | v :: r, o, w, xs, h => by
    have h1 := h.stored o v
    have h2 := ownsRow_setCells r (o + 1) _ _ h1.1
    exact ⟨h2.1, h1.2.trans h2.2⟩
theorem own_base {w : World} {base e size n : Nat} {v : Value} {xs : List Value} (h : w.ownsRow base e size v n xs) : ∀ q, v.ownBlock = some q → base ≤ q ∧ q < w.heap.size := by
  intro q hq
  obtain ⟨_, ⟨rfl, _⟩ | ⟨g, cap, cur, rfl, hb, hg, _⟩⟩ := h
  · cases hq
  · cases hq; exact ⟨hb, (Array.getElem?_eq_some_iff.1 hg).1⟩
theorem own_mono {w : World} {base base' e size n : Nat} {v : Value} {xs : List Value} (h : w.ownsRow base e size v n xs) (hb : base' ≤ base) : w.ownsRow base' e size v n xs := by
  obtain ⟨h1, h2 | ⟨g, cap, cur, hv, hB, hr⟩⟩ := h
  · exact ⟨h1, .inl h2⟩
  · exact ⟨h1, .inr ⟨g, cap, cur, hv, Nat.le_trans hb hB, hr⟩⟩
theorem rh_grown {w w' : World} {b : Nat} {A : Array Value} {t : TypeId} {r : Option Nat} (h : RH w b A t) (hg : w.grownBy w' r) (hr : some b ≠ r) : RH w' b A t := by
  unfold RH; rw [hg.block b h.lt hr]; exact h
/-- the blocks from N on that stand in w stand in w' -/
def Kept (N : Nat) (w w' : World) : Prop := ∀ q, N ≤ q → q < w.heap.size → w'.heap[q]? = w.heap[q]?
theorem Kept.grown {N g : Nat} {w w' : World} (h : w.grownBy w' (some g)) (hg : g < N) : Kept N w w' := fun q h1 h2 => h.block q h2 (by simp; omega)
theorem Kept.below {N : Nat} {w w' : World} (h : Below w.heap.size w w') : Kept N w w' := fun q _ h2 => h.block q h2
theorem Kept.trans {N : Nat} {a b c : World} (h : Kept N a b) (hs : a.heap.size ≤ b.heap.size) (k : Kept N b c) : Kept N a c := fun q h1 h2 => (k q h1 (by omega)).trans (h q h1 h2)
/-- it holds as long as the blocks from N on stay -/
def Fresh (N : Nat) (P : World → Prop) (w : World) : Prop := ∀ w', Kept N w w' → P w'
theorem Fresh.now {N : Nat} {P : World → Prop} {w : World} (h : Fresh N P w) : P w := h w (fun _ _ _ => rfl)
theorem Fresh.kept {N : Nat} {P : World → Prop} {w w' : World} (h : Fresh N P w) (hs : w.heap.size ≤ w'.heap.size) (k : Kept N w w') : Fresh N P w' := fun w'' h'' => h w'' (k.trans hs h'')
theorem Fresh.mono {N M : Nat} {P : World → Prop} {w : World} (h : Fresh N P w) (hN : M ≤ N) : Fresh M P w := fun w' k => h w' (fun q h1 h2 => k q (by omega) h2)
theorem fresh_own {w : World} {N e size n : Nat} {v : Value} {xs : List Value} (h : w.ownsRow N e size v n xs) : Fresh N (fun w => Sl w v n xs) w := fun w' k => by
  obtain ⟨h1, h2 | ⟨g, cap, cur, hv, hB, hg, hr⟩⟩ := h
  · exact Sl.ofOwn (⟨h1, .inl h2⟩ : w'.ownsRow N e size v n xs)
  · exact Sl.ofOwn (⟨h1, .inr ⟨g, cap, cur, hv, hB, (k g hB (Array.getElem?_eq_some_iff.1 hg).1).trans hg, hr⟩⟩ : w'.ownsRow N e size v n xs)
/-- a value written into the middle of a row of which all cells are known -/
theorem wpList_store_in {P : Program} {ops : Array Oper} {rest : List Oper} {op : Oper} {a : Act} {w : World} {Q : Exit → Act → World → Prop} (hgd : op.guard = none) (ty : TypeId) (x y : Operand) (ho : op.op = .store ty x y)
    (b o : Nat) (v : Value) (L : List Value) (hx : a.eval x = .pointer (some ⟨b, o, none⟩)) (hy : a.eval y = v) (hv : v.cells = L.toArray) (A : List Value) (t : TypeId) (hR : RH w b A.toArray t)
    (hfit : o + L.length ≤ A.length) (hi : (P.info? ty).map (·.size) = some L.length) (h1 : ∀ u ∈ L, u.oneCell' = true)
    (h : ∀ w', RH w' b (setL A o L).toArray t → w.grownBy w' (some b) → wpList P ops Q rest (a.put op.dst undef) w') : wpList P ops Q (op :: rest) a w := by
  have key : ∀ (L : List Value) (o : Nat) (w : World) (A : List Value), RH w b A.toArray t → RH (w.setCells b o L) b (setL A o L).toArray t ∧ w.grownBy (w.setCells b o L) (some b) := by
    intro L
    induction L with
    | nil => intro o w A h; exact ⟨h, World.grownBy.refl w _⟩
    | cons v r ih =>
      intro o w A h
      have h2 := h.set o v
      have e : A.toArray.setIfInBounds o v = (A.set o v).toArray := by simp
      rw [e] at h2
      obtain ⟨k1, k2⟩ := ih (o + 1) _ _ h2
      have k0 : w.grownBy (w.setCell ⟨b, o, none⟩ v) (some b) := ⟨rfl, rfl, rfl, by simp, fun k _ hk => heap_setCell_other w ⟨b, o, none⟩ k v (fun e => hk (by simp [e]))⟩
      exact ⟨k1, k0.trans k2⟩
  obtain ⟨k1, k2⟩ := key L o w A hR
  refine wpList_plain hgd fun K hK => ?_
  have hst : (Instr.storeAt ty (.pointer (some ⟨b, o, none⟩)) v).run P w = .ok () (w.setCells b o L) := by
    have := run_storeCells_cells (P := P) b o L 0 w (fun j hj => by
      rw [hR.cell, List.getElem?_toArray, List.getElem?_eq_getElem (by omega)]; rfl) (fun j hj => hR.fre _) h1
    simp only [Instr.storeAt, Instr.sureAddr, Sem.run_bind, Sem.run_pure, Result.andThen_ok]
    cases hq : P.info? ty with
    | none => simp [hq] at hi
    | some i =>
      have hs : L.length = i.size := by simp [hq] at hi; omega
      simp only [Nat.add_zero] at this
      simp [storeVar, sizeOf, typeInfo, hq, hv, hs, this]
  have : op.wp P a w K Q := by
    unfold Oper.wp execOp
    simp only [ho, hx, hy, Sem.run_bind, hst, Result.andThen_ok, Sem.run_pure]
    exact hK _ _ (h _ k1 k2)
  exact this
theorem grown_below {w w' : World} {b N : Nat} (h : w.grownBy w' (some b)) (hN : N ≤ w.heap.size) (hb : N ≤ b) : Below N w w' :=
  (Below.refl _ _).grown h hN (fun q hq => by cases hq; exact hb)
theorem grown_of {w w' : World} (h : Below w.heap.size w w') (r : Option Nat) : w.grownBy w' r := ⟨h.os, h.tape, h.output, h.size, fun k hk _ => h.block k hk⟩
theorem sl_blocks {w w' : World} {v : Value} {n : Nat} {cs : List Value} (h : Sl w v n cs) (hb : ∀ q, q < w.heap.size → w'.heap[q]? = w.heap[q]?) : Sl w' v n cs := by
  obtain ⟨a, cap, hv, h1, h2, h0, h3⟩ := h
  refine ⟨a, cap, hv, h1, h2, h0, fun i x hx => ?_⟩
  obtain ⟨b, o, ha, hc⟩ := h3 i x hx
  exact ⟨b, o, ha, (World.cell?_of_block (a := ⟨b, o + i, none⟩) (hb b (World.block_lt_of_cell? _ _ hc))).trans hc⟩
theorem kept_set {N b j : Nat} {v : Value} {w w' : World} (h : Kept N w w') (hb : b < N) : Kept N w (w'.setCell ⟨b, j, none⟩ v) := fun q h1 h2 => (heap_setCell_other w' ⟨b, j, none⟩ q v (fun e => by have e' : b = q := e.symm; omega)).trans (h q h1 h2)
/-- copy of rows of k cells an element -/
theorem run_copy_k {P : Program} (w : World) (dT sT ty elem : TypeId) (k b o dLen dCap : Nat) (a : Addr) (sLen sCap : Nat) (cs : List Value)
    (hu : P.underlying dT = some (.slice elem)) (hs : (P.info? elem).map (·.size) = some k) (hn : cs.length = Nat.min sLen dLen * k)
    (hsrc : ∀ j v, cs[j]? = some v → w.cell? (a.add j) = some v) (hc : ∀ j, j < cs.length → (w.cell? ⟨b, o + j, none⟩).isSome = true) (hf : ∀ j, j < cs.length → w.frozen? ⟨b, o + j, none⟩ = false) (h1 : ∀ v ∈ cs, v.oneCell' = true) :
    (Builtin.copy_ #[dT, sT] ty #[.slice (some ⟨b, o, none⟩) dLen dCap, .slice (some a) sLen sCap]).run P w = .ok (goInt (Nat.min sLen dLen)) (w.setCells b o cs) := by
  have hl := run_loadCells_list (P := P) w a cs hsrc
  have hst := run_storeCells_cells (P := P) b o cs 0 w (by simpa using hc) (by simpa using hf) h1
  cases hq : P.info? elem with
  | none => simp [hq] at hs
  | some i =>
    have hi : i.size = k := by simpa [hq] using hs
    simp [Builtin.copy_, run_underlying hu, Builtin.lenOf, Builtin.firstCells, sizeOf, typeInfo, hq, hi, ← hn, hl, hst]
theorem run_copy_own {P : Program} {w : World} {base : Nat} {e : TypeId} {k g n cap : Nat} {ys : List Value} (hown : w.ownsRow base e k (.slice (some ⟨g, 0, none⟩) n cap) n ys) (dT sT ty : TypeId) (o dLen dCap : Nat) (a : Addr) (sLen sCap : Nat) (cs : List Value)
    (hu : P.underlying dT = some (.slice e)) (hs : (P.info? e).map (·.size) = some k) (hn : cs.length = Nat.min sLen dLen * k)
    (hsrc : ∀ j v, cs[j]? = some v → w.cell? (a.add j) = some v) (hfit : o + cs.length ≤ n * k) (h1 : ∀ v ∈ cs, v.oneCell' = true) :
    (Builtin.copy_ #[dT, sT] ty #[.slice (some ⟨g, o, none⟩) dLen dCap, .slice (some a) sLen sCap]).run P w = .ok (goInt (Nat.min sLen dLen)) (w.setCells g o cs) :=
  run_copy_k w dT sT ty e k g o dLen dCap a sLen sCap cs hu hs hn hsrc (fun j hj => by
    have hl : ys.length = n * k := hown.1
    rw [hown.cellAt (o + j) (by omega), List.getElem?_eq_getElem (by omega)]; rfl) (fun j _ => hown.frozenAt _) h1
/-- one more element of a row's block in sight -/
theorem own_more {w : World} {base : Nat} {e : TypeId} {k g n cap : Nat} {xs : List Value} (h : w.ownsRow base e k (.slice (some ⟨g, 0, none⟩) n cap) n xs) (hc : n + 1 ≤ cap) :
    ∃ sp : List Value, sp.length = k ∧ w.ownsRow base e k (.slice (some ⟨g, 0, none⟩) (n + 1) cap) (n + 1) (xs ++ sp) := by
  obtain ⟨h1, h2⟩ := h
  rcases h2 with ⟨h', _⟩ | ⟨g', cap', cur, h', hb, hg, hn, hm, hs, ht⟩
  · simp at h'
  · simp only [Value.slice.injEq, Option.some.injEq, Addr.mk.injEq, and_true, true_and] at h'
    obtain ⟨rfl, rfl⟩ := h'
    have hle : (n + 1) * k ≤ cur.toList.length := by rw [Array.length_toList, hs]; exact Nat.mul_le_mul_right k hc
    have hnk : (n + 1) * k = n * k + k := Nat.succ_mul n k
    refine ⟨(cur.toList.drop (n * k)).take k, by rw [List.length_take, List.length_drop]; omega, ?_, .inr ⟨g, cap, cur, rfl, hb, hg, hc, hm, hs, ?_⟩⟩
    · rw [List.length_append, List.length_take, List.length_drop, h1]; omega
    · rw [← ht, hnk, List.take_add]
/-- shifted up in place, then the new one laid in -/
theorem ins_shift {k n i : Nat} (xs sp L : List Value) (hx : xs.length = n * k) (hsp : sp.length = k) (hL : L.length = k) (hi : i ≤ n) :
    setL (setL (xs ++ sp) ((i + 1) * k) (xs.drop (i * k))) (i * k) L = xs.take (i * k) ++ L ++ xs.drop (i * k) := by
  have hik : (i + 1) * k = i * k + k := Nat.succ_mul i k
  have hink : i * k ≤ n * k := Nat.mul_le_mul_right k hi
  have hl : (xs ++ sp).length = n * k + k := by rw [List.length_append, hx, hsp]
  have e0 : xs ++ sp = (xs ++ sp).take ((i + 1) * k) ++ ((xs ++ sp).drop ((i + 1) * k) ++ []) := by rw [List.append_nil, List.take_append_drop]
  have la : ((xs ++ sp).take ((i + 1) * k)).length = (i + 1) * k := by rw [List.length_take]; omega
  have h1 := setL_mid (xs.drop (i * k)) ((xs ++ sp).take ((i + 1) * k)) ((xs ++ sp).drop ((i + 1) * k)) [] (by rw [List.length_drop, List.length_drop]; omega)
  rw [la, ← e0, List.append_nil] at h1
  rw [h1]
  have e1 : (xs ++ sp).take ((i + 1) * k) = xs.take (i * k) ++ ((xs ++ sp).drop (i * k)).take k := by
    rw [hik, List.take_add, List.take_append_of_le_length (by omega)]
  have lb : (xs.take (i * k)).length = i * k := by rw [List.length_take]; omega
  have h2 := setL_mid L (xs.take (i * k)) (((xs ++ sp).drop (i * k)).take k) (xs.drop (i * k)) (by rw [List.length_take, List.length_drop]; omega)
  rw [lb] at h2
  rw [e1, List.append_assoc, h2, List.append_assoc]
/-- a new row: the new one laid in, then what stood behind -/
theorem ins_grow {k n i : Nat} (xs Z L : List Value) (hx : xs.length = n * k) (hZ : Z.length = (n + 1 - i) * k) (hL : L.length = k) (hi : i ≤ n) :
    setL (setL (xs.take (i * k) ++ Z) (i * k) L) ((i + 1) * k) (xs.drop (i * k)) = xs.take (i * k) ++ L ++ xs.drop (i * k) := by
  have hik : (i + 1) * k = i * k + k := Nat.succ_mul i k
  have hink : i * k ≤ n * k := Nat.mul_le_mul_right k hi
  have hz : (n + 1 - i) * k = (n - i) * k + k := by rw [show n + 1 - i = (n - i) + 1 by omega, Nat.succ_mul]
  have hni : (n - i) * k = n * k - i * k := Nat.sub_mul n i k
  have lb : (xs.take (i * k)).length = i * k := by rw [List.length_take]; omega
  have h1 := setL_mid L (xs.take (i * k)) (Z.take k) (Z.drop k) (by rw [List.length_take]; omega)
  rw [lb, List.take_append_drop] at h1
  rw [h1]
  have lc : (xs.take (i * k) ++ L).length = (i + 1) * k := by rw [List.length_append, lb]; omega
  have h2 := setL_mid (xs.drop (i * k)) (xs.take (i * k) ++ L) (Z.drop k) [] (by rw [List.length_drop, List.length_drop]; omega)
  rw [lc, List.append_nil, List.append_nil, List.append_assoc] at h2
  rw [h2, List.append_assoc]
/-- a world grown from w -/
structure GrownOf (w : World) where
  v : World
  b : Below w.heap.size w v
instance (w : World) : Inhabited (GrownOf w) := ⟨⟨w, Below.refl _ _⟩⟩
theorem GrownOf.of {w w' : World} (h : ∃ p : GrownOf w, w' = p.v) : Below w.heap.size w w' := by
  obtain ⟨p, rfl⟩ := h
  exact p.b
/- lists of cells, one for each element -/
def All2 {α β : Type} (R : α → β → Prop) : List α → List β → Prop
  | [], [] => True
  | x :: xs, y :: ys => R x y ∧ All2 R xs ys
  | _, _ => False
theorem All2.length {α β : Type} {R : α → β → Prop} : ∀ {l : List α} {m : List β}, All2 R l m → l.length = m.length
  | [], [], _ => rfl
  | _ :: _, _ :: _, h => by rw [List.length_cons, List.length_cons, All2.length h.2]
  | [], _ :: _, h => h.elim
  | _ :: _, [], h => h.elim
theorem All2.mono {α β : Type} {R S : α → β → Prop} (hRS : ∀ x y, R x y → S x y) : ∀ {l : List α} {m : List β}, All2 R l m → All2 S l m
  | [], [], _ => trivial
  | _ :: _, _ :: _, h => ⟨hRS _ _ h.1, All2.mono hRS h.2⟩
  | [], _ :: _, h => h.elim
  | _ :: _, [], h => h.elim
theorem All2.get {α β : Type} {R : α → β → Prop} : ∀ {l : List α} {m : List β} {i : Nat} {x : α}, All2 R l m → l[i]? = some x → ∃ y, m[i]? = some y ∧ R x y
  | x :: _, y :: _, 0, z, h, e => by
    obtain rfl : x = z := by simpa using e
    exact ⟨y, rfl, h.1⟩
  | _ :: l, _ :: m, i + 1, z, h, e => by
    obtain ⟨w, h1, h2⟩ := All2.get (l := l) (m := m) (i := i) h.2 (by simpa using e)
    exact ⟨w, by simpa using h1, h2⟩
  | [], _, _, _, _, e => by simp at e
  | _ :: _, [], _, _, h, _ => h.elim
theorem All2.set {α β : Type} {R : α → β → Prop} {a : α} {b : β} (hab : R a b) : ∀ {l : List α} {m : List β} (i : Nat), All2 R l m → All2 R (l.set i a) (m.set i b)
  | [], [], _, _ => trivial
  | _ :: _, _ :: _, 0, h => ⟨hab, h.2⟩
  | _ :: _, _ :: _, i + 1, h => ⟨h.1, All2.set hab i h.2⟩
  | [], _ :: _, _, h => h.elim
  | _ :: _, [], _, h => h.elim
theorem All2.append {α β : Type} {R : α → β → Prop} : ∀ {l l' : List α} {m m' : List β}, All2 R l m → All2 R l' m' → All2 R (l ++ l') (m ++ m')
  | [], _, [], _, _, k => k
  | _ :: _, _, _ :: _, _, h, k => ⟨h.1, All2.append h.2 k⟩
  | [], _, _ :: _, _, h, _ => h.elim
  | _ :: _, _, [], _, h, _ => h.elim
theorem All2.take {α β : Type} {R : α → β → Prop} : ∀ {l : List α} {m : List β} (i : Nat), All2 R l m → All2 R (l.take i) (m.take i)
  | _, _, 0, _ => by simp [All2]
  | [], [], _ + 1, _ => trivial
  | _ :: _, _ :: _, i + 1, h => ⟨h.1, All2.take i h.2⟩
  | [], _ :: _, _ + 1, h => h.elim
  | _ :: _, [], _ + 1, h => h.elim
theorem All2.drop {α β : Type} {R : α → β → Prop} : ∀ {l : List α} {m : List β} (i : Nat), All2 R l m → All2 R (l.drop i) (m.drop i)
  | _, _, 0, h => h
  | [], [], _ + 1, _ => trivial
  | _ :: _, _ :: _, i + 1, h => All2.drop i h.2
  | [], _ :: _, _ + 1, h => h.elim
  | _ :: _, [], _ + 1, h => h.elim
theorem fl_len {k : Nat} : ∀ {E : List (List Value)}, (∀ c ∈ E, c.length = k) → E.flatten.length = E.length * k
  | [], _ => by simp
  | c :: r, h => by
    rw [List.flatten_cons, List.length_append, h c (by simp), fl_len (fun c hc => h c (by simp [hc])), List.length_cons, Nat.succ_mul]; omega
theorem fl_split {E : List (List Value)} {i : Nat} {c : List Value} (h : E[i]? = some c) : E.flatten = (E.take i).flatten ++ (c ++ (E.drop (i + 1)).flatten) := by
  obtain ⟨hi, rfl⟩ := List.getElem?_eq_some_iff.1 h
  conv => lhs; rw [← List.take_append_drop i E, List.drop_eq_getElem_cons hi]
  rw [List.flatten_append, List.flatten_cons]
theorem fl_at {k : Nat} {E : List (List Value)} (hk : ∀ c ∈ E, c.length = k) {i j : Nat} {c : List Value} {v : Value} (h : E[i]? = some c) (hv : c[j]? = some v) : E.flatten[i * k + j]? = some v := by
  have hi := (List.getElem?_eq_some_iff.1 h).1
  have hj := (List.getElem?_eq_some_iff.1 hv).1
  have l1 : ((E.take i).flatten).length = i * k := by rw [fl_len (fun c hc => hk c (List.mem_of_mem_take hc)), List.length_take, Nat.min_eq_left (by omega)]
  rw [fl_split h, List.getElem?_append_right (by omega), l1, show i * k + j - i * k = j by omega, List.getElem?_append_left hj]
  exact hv
theorem fl_put {k : Nat} {E : List (List Value)} (hk : ∀ c ∈ E, c.length = k) {i : Nat} {c : List Value} (hi : i < E.length) (hc : c.length = k) : setL E.flatten (i * k) c = (E.set i c).flatten := by
  have h := List.getElem?_eq_getElem hi
  have l1 : ((E.take i).flatten).length = i * k := by rw [fl_len (fun c hc => hk c (List.mem_of_mem_take hc)), List.length_take, Nat.min_eq_left (by omega)]
  have h1 := setL_mid c (E.take i).flatten E[i] (E.drop (i + 1)).flatten (by rw [hk _ (List.getElem_mem hi), hc])
  rw [l1] at h1
  rw [fl_split h, h1, List.set_eq_take_append_cons_drop, if_pos hi, List.flatten_append, List.flatten_cons]
theorem fl_take {k : Nat} {E : List (List Value)} (hk : ∀ c ∈ E, c.length = k) (i : Nat) : E.flatten.take (i * k) = (E.take i).flatten ∧ E.flatten.drop (i * k) = (E.drop i).flatten := by
  have e0 : E.flatten = (E.take i).flatten ++ (E.drop i).flatten := by rw [← List.flatten_append, List.take_append_drop]
  by_cases h : i ≤ E.length
  · have l1 : ((E.take i).flatten).length = i * k := by rw [fl_len (fun c hc => hk c (List.mem_of_mem_take hc)), List.length_take, Nat.min_eq_left h]
    rw [e0]
    exact ⟨List.take_left' l1, List.drop_left' l1⟩
  · have l1 := fl_len hk
    have hle : E.length * k ≤ i * k := Nat.mul_le_mul_right k (by omega)
    rw [List.take_of_length_le (by omega), List.drop_eq_nil_of_le (by omega), List.take_of_length_le (by omega), List.drop_eq_nil_of_le (by omega)]
    exact ⟨rfl, rfl⟩
/-- it holds as long as no block but g is written -/
def Off (g : Option Nat) (P : World → Prop) (w : World) : Prop := ∀ w', w.grownBy w' g → P w'
theorem Off.now {g : Option Nat} {P : World → Prop} {w : World} (h : Off g P w) : P w := h w (World.grownBy.refl w g)
theorem Off.next {g : Option Nat} {P : World → Prop} {w w' : World} (h : Off g P w) (hg : w.grownBy w' g) : Off g P w' := fun w'' h'' => h w'' (hg.trans h'')
theorem Off.old {w0 w : World} {g : Nat} {P : World → Prop} (h : ∀ w', Below w0.heap.size w0 w' → P w') (hb : Below w0.heap.size w0 w) (hg : w0.heap.size ≤ g) : Off (some g) P w := fun w' h' => h w' (hb.grown h' hb.size (fun q hq => by cases hq; exact hg))
end Rw
end Go.Proofs.YtbhcfmdogdaodaaGreatDoor
namespace Go.Proofs.YtbhcfmdogdaodaaGreatDoor
open Go.RowKit
namespace Fd
open _root_.Go.Proofs.YtbhcfmdogdaodaaGreatDoor.Rw (All2 All2.length All2.get All2.mono All2.set All2.append All2.take All2.drop Kept Fresh Fresh.now Fresh.kept Fresh.mono fresh_own)
theorem repL_all {w : World} : ∀ {l : List V} {cs : List Value}, RepL w l cs → ∃ E, cs = E.flatten ∧ All2 (RepV w) l E
  | [], cs, h => by simp only [RepL] at h; exact ⟨[], h, trivial⟩
  | x :: r, cs, h => by
    simp only [RepL] at h
    obtain ⟨c, q, rfl, h1, h2⟩ := h
    obtain ⟨E, rfl, hE⟩ := repL_all h2
    exact ⟨c :: E, by simp, h1, hE⟩
theorem all_repL {w : World} : ∀ {l : List V} {E : List (List Value)}, All2 (RepV w) l E → RepL w l E.flatten
  | [], [], _ => by simp [RepL]
  | x :: r, c :: E, h => by simp only [RepL]; exact ⟨c, E.flatten, by simp, h.1, all_repL h.2⟩
  | [], _ :: _, h => h.elim
  | _ :: _, [], h => h.elim
theorem repFs_all {w : World} : ∀ {l : List F} {cs : List Value}, RepFs w l cs → ∃ E, cs = E.flatten ∧ All2 (RepF w) l E
  | [], cs, h => by simp only [RepFs] at h; exact ⟨[], h, trivial⟩
  | x :: r, cs, h => by
    simp only [RepFs] at h
    obtain ⟨c, q, rfl, h1, h2⟩ := h
    obtain ⟨E, rfl, hE⟩ := repFs_all h2
    exact ⟨c :: E, by simp, h1, hE⟩
theorem all_repFs {w : World} : ∀ {l : List F} {E : List (List Value)}, All2 (RepF w) l E → RepFs w l E.flatten
  | [], [], _ => by simp [RepFs]
  | x :: r, c :: E, h => by simp only [RepFs]; exact ⟨c, E.flatten, by simp, h.1, all_repFs h.2⟩
  | [], _ :: _, h => h.elim
  | _ :: _, [], h => h.elim
theorem all_len {α : Type} {R : α → List Value → Prop} {k : Nat} (hR : ∀ x c, R x c → c.length = k) : ∀ {l : List α} {E : List (List Value)}, All2 R l E → ∀ c ∈ E, c.length = k
  | [], [], _, _, h => by cases h
  | _ :: _, _ :: _, h, c, hc => by
    rcases List.mem_cons.1 hc with rfl | hc
    · exact hR _ _ h.1
    · exact all_len hR h.2 c hc
  | [], _ :: _, h, _, _ => h.elim
  | _ :: _, [], h, _, _ => h.elim
theorem RepV.one {w : World} {x : V} {c : List Value} (h : RepV w x c) : ∀ v ∈ c, v.oneCell' = true := by
  obtain ⟨k, n, s, is, fs⟩ := x
  simp only [RepV] at h
  obtain ⟨vi, vf, _, _, rfl, _, _, _, ⟨_, _, rfl, _⟩, _, ⟨_, _, rfl, _⟩, _⟩ := h
  intro v hv
  simp only [List.mem_cons, List.not_mem_nil, or_false] at hv
  rcases hv with rfl | rfl | rfl | rfl | rfl <;> rfl
theorem RepF.one {w : World} {x : F} {c : List Value} (h : RepF w x c) : ∀ v ∈ c, v.oneCell' = true := by
  obtain ⟨a, x⟩ := x
  simp only [RepF] at h
  obtain ⟨c, rfl, _, h⟩ := h
  intro v hv
  rcases List.mem_cons.1 hv with rfl | hv
  · rfl
  · exact RepV.one h v hv
theorem all_one {α : Type} {R : α → List Value → Prop} (hR : ∀ x c, R x c → ∀ v ∈ c, v.oneCell' = true) : ∀ {l : List α} {E : List (List Value)}, All2 R l E → ∀ v ∈ E.flatten, v.oneCell' = true
  | [], [], _, _, h => by simp at h
  | _ :: _, _ :: _, h, v, hv => by
    rw [List.flatten_cons] at hv
    rcases List.mem_append.1 hv with hv | hv
    · exact hR _ _ h.1 v hv
    · exact all_one hR h.2 v hv
  | [], _ :: _, h, _, _ => h.elim
  | _ :: _, [], h, _, _ => h.elim
/-- the cells of a value at its slices -/
structure VC (w : World) (k n : Int) (s : ByteArray) (is : List V) (fs : List F) (ai : Option Addr) (ci : Nat) (af : Option Addr) (cf : Nat) (EI EF : List (List Value)) : Prop where
  si : Sl w (.slice ai is.length ci) is.length EI.flatten
  ri : All2 (RepV w) is EI
  sf : Sl w (.slice af fs.length cf) fs.length EF.flatten
  rf : All2 (RepF w) fs EF
theorem RepV.open {w : World} {k n : Int} {s : ByteArray} {is : List V} {fs : List F} {cs : List Value} (h : RepV w (.mk k n s is fs) cs) :
    ∃ ai ci af cf EI EF, cs = [.int .i64 k, .int .i64 n, .string s, .slice ai is.length ci, .slice af fs.length cf] ∧ i64ok k ∧ i64ok n ∧ s.size ≤ maxLen ∧ VC w k n s is fs ai ci af cf EI EF := by
  simp only [RepV] at h
  obtain ⟨vi, vf, ics, fcs, rfl, h1, h2, h3, h4, h5, h6, h7⟩ := h
  obtain ⟨EI, rfl, hI⟩ := repL_all h5
  obtain ⟨EF, rfl, hF⟩ := repFs_all h7
  obtain ⟨ai, ci, rfl, k1⟩ := id h4
  obtain ⟨af, cf, rfl, k2⟩ := id h6
  exact ⟨ai, ci, af, cf, EI, EF, rfl, h1, h2, h3, h4, hI, h6, hF⟩
theorem VC.shut {w : World} {k n : Int} {s : ByteArray} {is : List V} {fs : List F} {ai af : Option Addr} {ci cf : Nat} {EI EF : List (List Value)} (h : VC w k n s is fs ai ci af cf EI EF) (h1 : i64ok k) (h2 : i64ok n) (h3 : s.size ≤ maxLen) : RepV w (.mk k n s is fs) [.int .i64 k, .int .i64 n, .string s, .slice ai is.length ci, .slice af fs.length cf] := by
  simp only [RepV]
  exact ⟨_, _, _, _, rfl, h1, h2, h3, h.si, all_repL h.ri, h.sf, all_repFs h.rf⟩
theorem VC.ext {w w' : World} {k n : Int} {s : ByteArray} {is : List V} {fs : List F} {ai af : Option Addr} {ci cf : Nat} {EI EF : List (List Value)} (h : VC w k n s is fs ai ci af cf EI EF) (hb : Below w.heap.size w w') : VC w' k n s is fs ai ci af cf EI EF :=
  ⟨h.si.ext hb, h.ri.mono (fun _ _ hr => RepV.ext hb hr), h.sf.ext hb, h.rf.mono (fun _ _ hr => RepF.ext hb hr)⟩
/-- a value in blocks from N on -/
def FreV (N : Nat) (w : World) (x : V) (c : List Value) : Prop := Fresh N (fun w => RepV w x c) w
def FreF (N : Nat) (w : World) (x : F) (c : List Value) : Prop := Fresh N (fun w => RepF w x c) w
theorem fre_field {N : Nat} {w : World} {nm : ByteArray} {x : V} {c : List Value} (h : FreV N w x c) (hn : nm.size ≤ maxLen) : FreF N w (.mk nm x) (.string nm :: c) := fun w' k => by
  simp only [RepF]
  exact ⟨c, rfl, hn, h w' k⟩
/-- what a copy answers -/
def CopyPost (x : V) (w : World) (e : Ending) (w' : World) : Prop := ∃ c, e = .returned (.agg c.toArray) ∧ FreV w.heap.size w' x c ∧ Below w.heap.size w w'
theorem V5 {w : World} {x : V} {c : List Value} (h : RepV w x c) : ∃ (k n : Int) (s : ByteArray) (a : Option Addr) (m q : Nat) (a' : Option Addr) (m' q' : Nat), c = [.int .i64 k, .int .i64 n, .string s, .slice a m q, .slice a' m' q'] := by
  cases x; simp only [RepV] at h; obtain ⟨_, _, _, _, rfl, _, _, _, ⟨_, _, rfl, _⟩, _, ⟨_, _, rfl, _⟩, _⟩ := h; exact ⟨_, _, _, _, _, _, _, _, _, rfl⟩
theorem v_info {w : World} {x : V} {c : List Value} (h : RepV w x c) : (Tryz.prog.info? 25).map (·.size) = some c.length := by
  rw [h.len]; kernel_rfl
theorem f_info {w : World} {x : F} {c : List Value} (h : RepF w x c) : (Tryz.prog.info? 54).map (·.size) = some c.length := by
  rw [h.len]; kernel_rfl
theorem all_arr {c : List Value} (h : ∀ v ∈ c, v.oneCell' = true) : c.toArray.all (·.oneCell') = true := by
  rw [Array.all_eq_true_iff_forall_mem]
  exact fun v hv => h v (by simpa using hv)
/-- the cells of an element of a slice -/
theorem sl_elem {w : World} {a : Option Addr} {n q k i : Nat} {E : List (List Value)} {c : List Value} (hs : Sl w (.slice a n q) n E.flatten) (hk : ∀ c ∈ E, c.length = k) (h0 : 0 < k) (hc : E[i]? = some c) :
    ∃ p o, a = some ⟨p, o, none⟩ ∧ p < w.heap.size ∧ ∀ (j : Nat) (v : Value), c[j]? = some v → w.cell? ⟨p, o + (i * k + j), none⟩ = some v := by
  obtain ⟨_, _, e, _, _, _, h3⟩ := hs
  cases e
  have hcl := hk c (List.mem_of_getElem? hc)
  obtain ⟨p, o, rfl, h4⟩ := h3 _ _ (Rw.fl_at hk hc (List.getElem?_eq_getElem (show 0 < c.length by omega)))
  refine ⟨p, o, rfl, World.block_lt_of_cell? _ _ h4, fun j v hv => ?_⟩
  obtain ⟨p', o', e, h5⟩ := h3 _ _ (Rw.fl_at hk hc hv)
  cases e
  exact h5
end Fd
end Go.Proofs.YtbhcfmdogdaodaaGreatDoor
