/- Maps of a call's own, as lists of pairs: any keys, any values. No program stands in it. slices.SortFunc at fields with the reader's closure. Printed by gen_srto.py. Names of fields in a map of the call's own. -/
import Derived.Test.YtbhcfmdogdaodaaGreatDoorRz00
import Derived.Maps.OwnSet
import Derived.Test.YtbhcfmdogdaodaaGreatDoorRz06
import Derived.Test.YtbhcfmdogdaodaaGreatDoorShelf
import Derived.Test.YtbhcfmdogdaodaaGreatDoorRz04
import Derived.Shelf.SlSortCmp.NoneTotal
import Derived.Sort.OwnSorted
import Derived.Deep.QuietTactic
import Derived.Test.YtbhcfmdogdaodaaGreatDoorRz16
namespace Go.Proofs.YtbhcfmdogdaodaaGreatDoor
open Go.RowKit
variable {α β : Type}
/-- What is asked of a key type: what the model does at its keys. -/
structure KeyOk [DecidableEq α] (P : Program) (K : TypeId) (kv : α → Value) : Prop where
  check : ∀ (e : Bool) (x : α) (w : World), (Instr.checkKey e 10000 K (kv x)).run P w = .ok () w
  find : ∀ (x : α) (es : List MapEntry) (l : List α) (w : World), es.map (·.key) = l.map kv → (Instr.findKey K (kv x) es).run P w = .ok ((l.findIdx? (fun y => decide (x = y))).bind fun i => (es[i]?).map fun e => (i, e.val)) w
  bits : ∀ x : α, Instr.sameBits 10000 (kv x) (kv x) = true
/-- Keys that the model compares at once: strings, ints, bools. -/
theorem find_now [DecidableEq α] {kind : TypeDesc} {kv : α → Value} (heq : ∀ x y : α, Instr.sameNow kind (kv x) (kv y) = some (decide (x = y))) (x : α) :
    ∀ (es : List MapEntry) (l : List α) (i : Nat), es.map (·.key) = l.map kv → Instr.findNow kind (kv x) es i = some ((l.findIdx? (fun y => decide (x = y))).bind fun j => (es[j]?).map fun e => (i + j, e.val))
  | [], [], i, _ => by simp [Instr.findNow]
  | [], _ :: _, _, h => by simp at h
  | _ :: _, [], _, h => by simp at h
  | e :: es, y :: l, i, h => by
    simp only [List.map_cons, List.cons.injEq] at h
    obtain ⟨h1, h2⟩ := h
    unfold Instr.findNow
    simp only [h1, heq]
    rw [List.findIdx?_cons]
    by_cases hxy : x = y
    · simp [hxy]
    · rw [find_now heq x es l (i + 1) h2]
      simp only [hxy, decide_false, Bool.false_eq_true, if_false]
      cases hq : l.findIdx? (fun y => decide (x = y)) with
      | none => simp
      | some j => simp [Nat.add_assoc, Nat.add_comm 1 j]
theorem KeyOk.now [DecidableEq α] {P : Program} {K : TypeId} {kv : α → Value} {kind : TypeDesc} (hu : P.underlying K = some kind) (hc : ∀ (e : Bool) (x : α) (w : World), (Instr.checkKey e 10000 K (kv x)).run P w = .ok () w)
    (heq : ∀ x y : α, Instr.sameNow kind (kv x) (kv y) = some (decide (x = y))) (hb : ∀ x : α, Instr.sameBits 10000 (kv x) (kv x) = true) : KeyOk P K kv where
  check := hc
  find x es l w h := by
    unfold Instr.findKey
    simp only [Sem.run_bind, run_underlying hu, Result.andThen_ok, find_now heq x es l 0 h, Nat.zero_add, Sem.run_pure]
  bits := hb
/-- The map that block b is, as a list of pairs. -/
def MapIs (kv : α → Value) (vv : β → Value) (w : World) (b : Nat) (l : List (α × β)) : Prop :=
  ∃ (es : Array MapEntry) (clock : Nat), w.heap[b]? = some (.map es clock) ∧ es.toList.map (·.key) = l.map (fun p => kv p.1) ∧ es.toList.map (·.val) = l.map (fun p => vv p.2) ∧ (∀ e ∈ es.toList, e.born < clock) ∧ es.toList.Pairwise (fun a b => a.born ≠ b.born)
/-- What a list of pairs has at a key. -/
def look [DecidableEq α] (l : List (α × β)) (x : α) : Option β := (l.find? (fun p => decide (x = p.1))).map (·.2)
/-- A list of pairs with a pair put into it. -/
def putL [DecidableEq α] : List (α × β) → α → β → List (α × β)
  | [], x, y => [(x, y)]
  | p :: l, x, y => if x = p.1 then (x, y) :: l else p :: putL l x y
theorem look_put [DecidableEq α] (l : List (α × β)) (x z : α) (y : β) : look (putL l x y) z = if z = x then some y else look l z := by
  induction l with
  | nil => by_cases h : z = x <;> simp [putL, look, h]
  | cons p l ih =>
    unfold putL
    by_cases hx : x = p.1
    · rw [if_pos hx]
      by_cases h : z = x
      · simp [look, h]
      · have : ¬ z = p.1 := fun e => h (e.trans hx.symm)
        simp [look, h, this]
    · rw [if_neg hx]
      by_cases h : z = p.1
      · have hzx : ¬ z = x := fun e => hx (e.symm.trans h)
        rw [if_neg hzx]; simp [look, h]
      · unfold look at ih ⊢
        simp only [List.find?_cons, h, decide_false]
        exact ih
theorem MapIs.made (kv : α → Value) (vv : β → Value) (w : World) : MapIs kv vv (w.alloc (.map #[] 0)) w.heap.size [] :=
  ⟨#[], 0, by show (w.heap.push (.map #[] 0))[w.heap.size]? = _; simp, rfl, rfl, by simp, by simp⟩
theorem MapIs.lt {kv : α → Value} {vv : β → Value} {w : World} {b : Nat} {l : List (α × β)} (h : MapIs kv vv w b l) : b < w.heap.size := by
  obtain ⟨_, _, h1, _⟩ := h; exact (Array.getElem?_eq_some_iff.1 h1).1
theorem MapIs.ext {kv : α → Value} {vv : β → Value} {w w' : World} {b : Nat} {l : List (α × β)} (h : MapIs kv vv w b l) (hb : Below w.heap.size w w') : MapIs kv vv w' b l := by
  have hlt := h.lt
  obtain ⟨es, clock, h1, h2⟩ := h
  exact ⟨es, clock, (hb.block b hlt).trans h1, h2⟩
theorem MapIs.below {kv : α → Value} {vv : β → Value} {w w' : World} {b B : Nat} {l : List (α × β)} (h : MapIs kv vv w b l) (hb : Below B w w') (hB : b < B) : MapIs kv vv w' b l := by
  obtain ⟨es, clock, h1, h2⟩ := h
  exact ⟨es, clock, (hb.block b hB).trans h1, h2⟩
/-- another block than the one that grew -/
theorem MapIs.grown {kv : α → Value} {vv : β → Value} {w w' : World} {b : Nat} {l : List (α × β)} {row : Option Nat} (h : MapIs kv vv w b l) (hg : w.grownBy w' row) (hr : row ≠ some b) : MapIs kv vv w' b l := by
  have hlt := h.lt
  obtain ⟨es, clock, h1, h2⟩ := h
  exact ⟨es, clock, (hg.block b hlt (fun e => hr e.symm)).trans h1, h2⟩
theorem find_look [DecidableEq α] (l : List (α × β)) (x : α) : (((l.map (·.1)).findIdx? (fun y => decide (x = y))).bind fun i => l[i]?).map (·.2) = look l x := by
  induction l with
  | nil => rfl
  | cons p l ih =>
    rw [List.map_cons, List.findIdx?_cons]
    by_cases h : x = p.1
    · simp [look, h]
    · simp only [h, decide_false, Bool.false_eq_true, if_false]
      have e : look (p :: l) x = look l x := by simp [look, h]
      rw [e, ← ih]
      cases (l.map (·.1)).findIdx? (fun y => decide (x = y)) <;> simp
theorem keys_map {kv : α → Value} {es : List MapEntry} {l : List (α × β)} (h : es.map (·.key) = l.map (fun p => kv p.1)) : es.map (·.key) = (l.map (·.1)).map kv := by rw [h, List.map_map]; rfl
theorem found_val {vv : β → Value} {es : List MapEntry} {l : List (α × β)} (h : es.map (·.val) = l.map (fun p => vv p.2)) (o : Option Nat) :
    (o.bind fun i => (es[i]?).map fun e => (i, e.val)).map (·.2) = ((o.bind fun i => l[i]?).map (·.2)).map vv := by
  cases o with
  | none => rfl
  | some i =>
    have := congrArg (fun q : List Value => q[i]?) h
    simp only [List.getElem?_map] at this
    simp only [Option.bind_some, Option.map_map]
    have e1 : (es[i]?).map ((fun x : Nat × Value => x.2) ∘ fun e => (i, e.val)) = (es[i]?).map (·.val) := rfl
    rw [e1, this]; rfl
/-- v, ok := m[x] -/
theorem MapIs.lookup [DecidableEq α] {P : Program} {K E t : TypeId} {kv : α → Value} {vv : β → Value} {w : World} {b : Nat} {l : List (α × β)} (h : MapIs kv vv w b l) (ko : KeyOk P K kv) (ht : P.underlying t = some (.map K E)) {z : Value} (hz : (zeroValue E).run P w = .ok z w) (x : α) (c : Bool) :
    (Instr.lookup t (.map (some b)) (kv x) c).run P w = .ok (if c then .tuple #[((look l x).map vv).getD z, .bool (look l x).isSome] else ((look l x).map vv).getD z) w := by
  obtain ⟨es, clock, h1, h2, h3, _, _⟩ := h
  have hgo : (getObj b).run P w = .ok (.map es clock) w := by simp [getObj, Sem.run, h1]
  unfold Instr.lookup
  have hf := ko.find x es.toList (l.map (·.1)) w (keys_map h2)
  have hv := found_val h3 ((l.map (·.1)).findIdx? (fun y => decide (x = y)))
  rw [find_look] at hv
  simp only [Sem.run_bind, run_underlying ht, Result.andThen_ok, hgo, Sem.run_pure, ko.check, hf]
  generalize (((l.map (·.1)).findIdx? (fun y => decide (x = y))).bind fun i => (es.toList[i]?).map fun e => (i, e.val)) = q at hv
  cases q with
  | none =>
    have : (look l x).map vv = none := hv.symm
    have h0 : look l x = none := by cases hq : look l x with | none => rfl | some _ => rw [hq] at this; cases this
    simp [h0, hz]
  | some p =>
    have : (look l x).map vv = some p.2 := hv.symm
    have h0 : (look l x).isSome = true := by cases hq : look l x with | none => rw [hq] at this; cases this | some _ => rfl
    rw [this, h0]
    simp
theorem wpList_lookup_a [DecidableEq α] {P : Program} {w : World} {ops : Array Oper} {rest : List Oper} {o : Oper} {a : Act} {Q : Exit → Act → World → Prop} (hg : o.guard = none) (m x : Operand) (t : TypeId) (c : Bool) (hop : o.op = Op.lookup t m x c)
    {K E : TypeId} {kv : α → Value} {vv : β → Value} (ko : KeyOk P K kv) (ht : P.underlying t = some (.map K E)) {z : Value} (hz : (zeroValue E).run P w = .ok z w) {b : Nat} {l : List (α × β)}
    (hm : a.eval m = .map (some b)) (h : MapIs kv vv w b l) (y : α) (hx : a.eval x = kv y)
    (hK : wpList P ops Q rest (a.put o.dst (if c then .tuple #[((look l y).map vv).getD z, .bool (look l y).isSome] else ((look l y).map vv).getD z)) w) : wpList P ops Q (o :: rest) a w := by
  refine wpList_plain hg fun K' hK' => ?_
  have hrun := h.lookup ko ht hz y c
  unfold Oper.wp
  simp only [execOp, hop, hm, hx, Sem.run_bind, hrun, Result.andThen_ok, Sem.run_pure]
  exact hK' _ _ hK
/-- below B every cell reads as it did -/
def CellsKept (B : Nat) (w w' : World) : Prop := w.heap.size ≤ w'.heap.size ∧ ∀ b o, b < B → w'.cell? ⟨b, o, none⟩ = w.cell? ⟨b, o, none⟩
theorem CellsKept.refl (B : Nat) (w : World) : CellsKept B w w := ⟨Nat.le_refl _, fun _ _ _ => rfl⟩
theorem CellsKept.below {B : Nat} {w w1 w2 : World} (h : CellsKept B w w1) (hb : Below B w1 w2) : CellsKept B w w2 :=
  ⟨Nat.le_trans h.1 hb.size, fun b o hB => (hb.cell (p := ⟨b, o, none⟩) hB).trans (h.2 b o hB)⟩
theorem CellsKept.ext {B : Nat} {w w1 w2 : World} (h : CellsKept B w w1) (hB : B ≤ w.heap.size) (hb : Below w1.heap.size w1 w2) : CellsKept B w w2 := h.below (hb.mono (Nat.le_trans hB h.1))
theorem CellsKept.sl {w w' : World} {v : Value} {n : Nat} {cs : List Value} (h : CellsKept w.heap.size w w') (s : Sl w v n cs) : Sl w' v n cs := by
  obtain ⟨a, cap, hv, h1, h2, h0, h3⟩ := s
  refine ⟨a, cap, hv, h1, h2, h0, fun i x hx => ?_⟩
  obtain ⟨b, o, ha, hc⟩ := h3 i x hx
  exact ⟨b, o, ha, (h.2 b (o + i) (World.block_lt_of_cell? w _ hc)).trans hc⟩
theorem putL_set [DecidableEq α] (l : List (α × β)) (x : α) (y : β) : ∀ i, (l.map (·.1)).findIdx? (fun z => decide (x = z)) = some i → putL l x y = l.set i (x, y) ∧ i < l.length ∧ (l[i]?).map (·.1) = some x := by
  induction l with
  | nil => intro i h; simp at h
  | cons p l ih =>
    intro i h
    rw [List.map_cons, List.findIdx?_cons] at h
    by_cases hx : x = p.1
    · simp only [hx, decide_true, if_true, Option.some.injEq] at h
      subst h
      exact ⟨by rw [putL, if_pos hx]; rfl, by simp, by simp [hx]⟩
    · simp only [hx, decide_false, Bool.false_eq_true, if_false, Option.map_eq_some_iff] at h
      obtain ⟨j, hj, rfl⟩ := h
      obtain ⟨h1, h2, h3⟩ := ih j hj
      exact ⟨by rw [putL, if_neg hx, h1]; rfl, by simp; omega, by simpa using h3⟩
theorem putL_new [DecidableEq α] (l : List (α × β)) (x : α) (y : β) (h : (l.map (·.1)).findIdx? (fun z => decide (x = z)) = none) : putL l x y = l ++ [(x, y)] := by
  induction l with
  | nil => rfl
  | cons p l ih =>
    rw [List.map_cons, List.findIdx?_cons] at h
    by_cases hx : x = p.1
    · simp [hx] at h
    · simp only [hx, decide_false, Bool.false_eq_true, if_false, Option.map_eq_none_iff] at h
      rw [putL, if_neg hx, ih h]; rfl
theorem modify_list {γ : Type} (es : Array γ) (i : Nat) (f : γ → γ) : (es.modify i f).toList = es.toList.modify i f := by simp
theorem map_modify_key (es : List MapEntry) (i : Nat) (k v : Value) : (es.modify i fun e => { e with key := k, val := v }).map (·.key) = (es.map (·.key)).set i k ∧ (es.modify i fun e => { e with key := k, val := v }).map (·.val) = (es.map (·.val)).set i v ∧ (es.modify i fun e => { e with key := k, val := v }).map (·.born) = es.map (·.born) := by
  induction es generalizing i with
  | nil => cases i <;> simp
  | cons e es ih =>
    cases i with
    | zero => simp
    | succ i => obtain ⟨h1, h2, h3⟩ := ih i; simp only [List.modify_succ_cons, List.map_cons, List.set_cons_succ, h1, h2, h3, and_self]
theorem born_ok {es es' : List MapEntry} (h : es'.map (·.born) = es.map (·.born)) {clock : Nat} (h1 : ∀ e ∈ es, e.born < clock) (h2 : es.Pairwise (fun a b => a.born ≠ b.born)) : (∀ e ∈ es', e.born < clock) ∧ es'.Pairwise (fun a b => a.born ≠ b.born) := by
  constructor
  · intro e he
    have : e.born ∈ es.map (·.born) := by rw [← h]; exact List.mem_map_of_mem he
    obtain ⟨e', he', hb⟩ := List.mem_map.1 this
    rw [← hb]; exact h1 e' he'
  · have h3 : (es.map (·.born)).Pairwise (· ≠ ·) := List.pairwise_map.2 h2
    rw [← h] at h3
    exact List.pairwise_map.1 h3
/-- m[x] = y -/
theorem MapIs.update [DecidableEq α] {P : Program} {K E t : TypeId} {kv : α → Value} {vv : β → Value} {w : World} {b : Nat} {l : List (α × β)} (h : MapIs kv vv w b l) (ko : KeyOk P K kv) (ht : P.underlying t = some (.map K E)) (x : α) (y : β) :
    ∃ w', (Instr.mapUpdate t (.map (some b)) (kv x) (vv y)).run P w = .ok () w' ∧ MapIs kv vv w' b (putL l x y) ∧ w.mapTurned w' b := by
  obtain ⟨es, clock, h1, h2, h3, h4, h5⟩ := h
  have hlt := (Array.getElem?_eq_some_iff.1 h1).1
  have hgo : (getObj b).run P w = .ok (.map es clock) w := by simp [getObj, Sem.run, h1]
  have hso : ∀ o, (setObj b o).run P w = .ok () (ChangeMaps.setBlock w b o) := fun o => by simp [setObj, Sem.run, h1, ChangeMaps.setBlock]
  have hf := ko.find x es.toList (l.map (·.1)) w (keys_map h2)
  unfold Instr.mapUpdate
  simp only [Sem.run_bind, run_underlying ht, Result.andThen_ok, hgo, ko.check, hf]
  cases hq : (l.map (·.1)).findIdx? (fun z => decide (x = z)) with
  | none =>
    refine ⟨_, by simp only [Option.bind_none, hso]; rfl, ?_, ⟨es, clock, _, _, h1, rfl⟩⟩
    rw [putL_new l x y hq]
    refine ⟨es.push { key := kv x, val := vv y, born := clock }, clock + 1, by simp [ChangeMaps.setBlock, hlt], by simp [h2], by simp [h3], fun e he => ?_, ?_⟩
    · simp only [Array.toList_push, List.mem_append, List.mem_singleton] at he
      rcases he with he | rfl
      · have := h4 e he; omega
      · exact Nat.lt_succ_self _
    · simp only [Array.toList_push, List.pairwise_append]
      exact ⟨h5, by simp, fun a ha c hc => by simp only [List.mem_singleton] at hc; subst hc; have := h4 a ha; show a.born ≠ clock; omega⟩
  | some i =>
    obtain ⟨p1, p2, p3⟩ := putL_set l x y i hq
    have hlen : es.toList.length = l.length := by have := congrArg List.length h2; simpa using this
    have hi : i < es.size := by rw [← Array.length_toList, hlen]; exact p2
    have hkey : (es[i]?).map (·.key) = some (kv x) := by
      have := congrArg (fun q : List Value => q[i]?) h2
      simp only [List.getElem?_map, Array.getElem?_toList] at this
      rw [this]
      have e : (l[i]?).map (fun p => kv p.1) = ((l[i]?).map (·.1)).map kv := by rw [Option.map_map]; rfl
      rw [e, p3]; rfl
    have hes : es.toList[i]? = some es[i] := by simp [hi]
    obtain ⟨m1, m2, m3⟩ := map_modify_key es.toList i (kv x) (vv y)
    obtain ⟨b1, b2⟩ := born_ok (es' := (es.modify i fun e => { e with key := kv x, val := vv y }).toList) (by rw [modify_list]; exact m3) h4 h5
    refine ⟨_, by simp only [Option.bind_some, hes, Option.map_some, hkey, Option.getD_some, Instr.keyThatStays, ko.bits, if_true, Sem.run_bind, Sem.run_pure, Result.andThen_ok, hso]; rfl, ?_, ⟨es, clock, _, _, h1, rfl⟩⟩
    refine ⟨es.modify i fun e => { e with key := kv x, val := vv y }, clock, by simp [ChangeMaps.setBlock, hlt], ?_, ?_, b1, b2⟩
    · rw [modify_list, m1, h2, p1, List.map_set]
    · rw [modify_list, m2, h3, p1, List.map_set]
theorem wpList_update_a [DecidableEq α] {P : Program} {w : World} {ops : Array Oper} {rest : List Oper} {o : Oper} {a : Act} {Q : Exit → Act → World → Prop} (hg : o.guard = none) (m x v : Operand) (t : TypeId) (hop : o.op = Op.mapUpdate t m x v)
    {K E : TypeId} {kv : α → Value} {vv : β → Value} (ko : KeyOk P K kv) (ht : P.underlying t = some (.map K E)) {b : Nat} {l : List (α × β)}
    (hm : a.eval m = .map (some b)) (h : MapIs kv vv w b l) (p : α) (hx : a.eval x = kv p) (q : β) (hv : a.eval v = vv q)
    (hK : ∀ w', MapIs kv vv w' b (putL l p q) → w.mapTurned w' b → wpList P ops Q rest (a.put o.dst undef) w') : wpList P ops Q (o :: rest) a w := by
  refine wpList_plain hg fun K' hK' => ?_
  obtain ⟨w', hrun, r1, r2⟩ := h.update ko ht p q
  unfold Oper.wp
  simp [execOp, hop, hm, hx, hv, hrun, Result.andThen]
  exact hK' _ _ (hK w' r1 r2)
end Go.Proofs.YtbhcfmdogdaodaaGreatDoor
namespace Go.Proofs.YtbhcfmdogdaodaaGreatDoor
open Go.RowKit Go.Sort Go.Shelf
namespace Fd
open _root_.Go.Proofs.YtbhcfmdogdaodaaGreatDoor.Rw (All2 All2.length All2.get fl_len)
/-- blocks behind w and draws alone -/
def GrewF (w w' : World) : Prop := ∃ q os', w' = grow (w.drewN q) os'
set_option maxRecDepth 100000 in
set_option maxHeartbeats 8000000 in
theorem obj1_at (f g : F) (c c' : List Value) (w : World) (h : RepF w f c) (h' : RepF w g c') :
    Calls Tryz.prog 39 #[.agg c.toArray, .agg c'.toArray] w fun e w' => e = .returned (.int .i64 (cmpS (nmF f) (nmF g))) ∧ GrewF w w' := by
  obtain ⟨a, x⟩ := f
  obtain ⟨b, y⟩ := g
  simp only [RepF] at h h'
  obtain ⟨cv, rfl, _, hx⟩ := h
  obtain ⟨cv', rfl, _, hy⟩ := h'
  obtain ⟨k, n, s, a1, m1, q1, a2, m2, q2, rfl⟩ := V5 hx
  obtain ⟨k', n', s', a1', m1', q1', a2', m2', q2', rfl⟩ := V5 hy
  show Calls Tryz.prog 39 #[.agg _, .agg _] w fun e w' => e = .returned (.int .i64 (cmpS a b)) ∧ GrewF w w'
  clear hx hy
  go_enter Tryz.func39, Tryz.ntmps39
  go_wp2_with (go_at_call 40; refine (strings_Compare _ _ _).mono ?_; rintro e w' ⟨rfl, rfl⟩)
  go_ret
  exact ⟨rfl, 0, #[_, _], rfl⟩
theorem zipK {α β : Type} {R : α → β → Prop} : ∀ {l : List α} {m : List β}, All2 R l m → ∃ S : List {p : α × β // R p.1 p.2}, S.map (fun x => x.1.1) = l ∧ S.map (fun x => x.1.2) = m
  | [], [], _ => ⟨[], rfl, rfl⟩
  | a :: l, b :: m, h => by
    obtain ⟨S, h1, h2⟩ := zipK (l := l) (m := m) h.2
    exact ⟨⟨(a, b), h.1⟩ :: S, by rw [List.map_cons, h1], by rw [List.map_cons, h2]⟩
  | [], _ :: _, h => h.elim
  | _ :: _, [], h => h.elim
theorem unzipK {α β γ : Type} {R R' : α → β → Prop} (f : γ → α) (g : γ → β) : ∀ S : List γ, (∀ x ∈ S, R' (f x) (g x)) → All2 R' (S.map f) (S.map g)
  | [], _ => trivial
  | x :: S, h => ⟨h x (by simp), unzipK (R := R) f g S (fun y hy => h y (by simp [hy]))⟩
section
variable {N g : Nat} {w : World}
abbrev FK (N g : Nat) (w : World) := {p : F × List Value // ∀ w', KX N (some g) w w' → RepF w' p.1 p.2}
def fkL (x : FK N g w) : List Value := x.1.2
def fkC (x y : FK N g w) : Int := cmpS (nmF x.1.1) (nmF y.1.1)
theorem fkL_len (x : FK N g w) : (fkL x).length = 6 := RepF.len (x.2 w (KX.refl _ _ _))
theorem fkL_one (x : FK N g w) : ∀ u ∈ fkL x, u.oneCell' = true := RepF.one (x.2 w (KX.refl _ _ _))
instance fkInh : Inhabited (FK N g w) := ⟨⟨(.mk ByteArray.empty V0, .string ByteArray.empty :: [.int .i64 0, .int .i64 0, .string ByteArray.empty, .slice none 0 0, .slice none 0 0]), fun w' _ => by
  have h : RepV w' V0 [.int .i64 0, .int .i64 0, .string ByteArray.empty, .slice none 0 0, .slice none 0 0] :=
    rep_mk (k := 0) (n := 0) (s := ByteArray.empty) (is := []) (fs := []) (EI := []) (E := []) ⟨by unfold i64ok; omega, by unfold i64ok; omega, by decide⟩ (Sl.nil w') trivial (Sl.nil w') trivial
  simp only [RepF]
  exact ⟨_, rfl, by decide, h⟩⟩⟩
theorem fkC_swo : SWO (ltOf (fkC (N := N) (g := g) (w := w))) where
  irrefl x := by simp [ltOf, fkC, cmpS_self]
  trans x y z h k := by
    simp only [ltOf, fkC] at *
    have h' := of_decide_eq_true h; have k' := of_decide_eq_true k
    exact decide_eq_true (lt_trans h' k')
  ntrans x y z h k := by
    simp only [ltOf, decide_eq_false_iff_not, Int.not_lt] at *
    unfold fkC at *
    have h1 := cmpS_anti (nmF x.1.1) (nmF y.1.1); have h2 := cmpS_anti (nmF y.1.1) (nmF z.1.1); have h3 := cmpS_anti (nmF x.1.1) (nmF z.1.1)
    have := cmpS_trans (a := nmF z.1.1) (b := nmF y.1.1) (c := nmF x.1.1) (by omega) (by omega)
    omega
theorem flatF_get (U : List (FK N g w)) (t : Nat) (ht : t < U.length * 6) : (U.flatMap fkL)[t]? = some (flatK fkL 6 U.toArray)[t]! := by
  rw [get_flatK _ _ _ _ (by simpa using ht)]
  have h1 : t / 6 < U.length := by omega
  have h2 : U[t / 6]? = some U.toArray[t / 6]! := by rw [getElem!_pos U.toArray _ (by simpa using h1)]; simp [h1]
  have h3 : t % 6 < (fkL U.toArray[t / 6]!).length := by rw [fkL_len]; omega
  have := flat_get fkL_len U (t / 6) _ h2 (t % 6) _ (List.getElem?_eq_getElem h3)
  rw [show t / 6 * 6 + t % 6 = t by omega] at this
  rw [this, getElem!_pos (fkL U.toArray[t / 6]!) _ h3]
theorem fk_grown {v W : World} {blk off : Nat} {dk : Array (FK N g w)} (h : SWK fkL 6 v blk off dk W) : v.grownBy W (some blk) := by
  obtain ⟨n, os, rfl⟩ := h
  refine ⟨rfl, rfl, rfl, ?_, fun j hj hne => ?_⟩
  · unfold sortWorldK; rw [_root_.Go.Sort.size_grow, size_putRowK]; exact Nat.le_add_right _ _
  · unfold sortWorldK
    rw [_root_.Go.Sort.heap_grow_old _ _ (by rw [size_putRowK]; show j < v.heap.size; omega)]
    simp only [putRowK, putRow, mapBlock, Array.getElem?_modify]
    rw [if_neg (fun e => hne (by rw [e]))]; rfl
theorem kx_grown {W : World} (h : w.grownBy W (some g)) : KX N (some g) w W := fun q _ h2 h3 => h.block q h2 h3
theorem fk_lays (off size : Nat) : CmpLays Tryz.prog 39 #[] (fkL (N := N) (g := g) (w := w)) 6 fkC g off size w := fun m os dk _ x y => by
  have hW : KX N (some g) w (sortWorldK (fkL (N := N) (g := g) (w := w)) 6 w g off m dk os) := kx_grown (fk_grown ⟨m, os, rfl⟩)
  exact obj1_at x.1.1 y.1.1 _ _ _ (x.2 _ hW) (y.2 _ hW)
theorem own_fk {W : World} {cap : Nat} {e : TypeId} {cur : Array Value} {d : Array (FK N g w)} (hS : SWK fkL 6 w g 0 d W) (hb : N ≤ g) (hg : w.heap[g]? = some (.cells cur e (0, 0))) (hn : d.size ≤ cap) (hm : cap ≤ maxLen) (hs : cur.size = cap * 6) (H : HoldsK fkL 6 W g 0 d) :
    W.ownsRow N e 6 (.slice (some ⟨g, 0, none⟩) d.size cap) d.size (d.toList.flatMap fkL) := by
  have hblk : g < w.heap.size := (Array.getElem?_eq_some_iff.1 hg).1
  obtain ⟨n, os, rfl⟩ := hS
  obtain ⟨c2, h2, hsz⟩ : ∃ c2, (sortWorldK fkL 6 w g 0 n d os).heap[g]? = some (.cells c2 e (0, 0)) ∧ c2.size = cur.size := by
    refine ⟨putCells id 0 (flatK fkL 6 d) cur, ?_, by simp [putCells]⟩
    unfold sortWorldK
    rw [_root_.Go.Sort.heap_grow_old _ _ (by rw [size_putRowK]; exact hblk)]
    simp only [putRowK, putRow, mapBlock, Array.getElem?_modify]
    rw [if_pos trivial]
    show Option.map _ (w.heap[g]?) = _
    rw [hg]; rfl
  refine ⟨by rw [flat_length fkL_len]; simp, .inr ⟨g, cap, c2, rfl, hb, h2, hn, hm, by rw [hsz, hs], ?_⟩⟩
  apply List.ext_getElem?
  intro j
  by_cases hj : j < d.size * 6
  · rw [List.getElem?_take_of_lt hj, flatF_get d.toList j (by simpa using hj)]
    have h4 := (H j (by rw [size_flatK]; exact hj)).1
    simp only [World.cell?, h2, Nat.zero_add] at h4
    simpa using h4
  · rw [List.getElem?_take_eq_none (by omega), List.getElem?_eq_none]
    rw [flat_length fkL_len]; simpa using hj
end
theorem sortFld_at (N : Nat) (w : World) (fs : List F) (hl : fs.length ≤ 100000) (v : Value) (E : List (List Value)) (h : TopF N w fs v E) :
    Calls Tryz.prog 38 #[v, .func (.func 39) #[] #[]] w fun e w' => e = .returned (.tuple #[]) ∧ ∃ (S : List F) (E' : List (List Value)), S.Perm fs ∧ S.Pairwise (fun a b => cmpS (nmF a) (nmF b) ≤ 0) ∧ TopF N w' S v E' ∧ w.grownBy w' v.ownBlock := by
  obtain ⟨hown, hel⟩ := h
  rcases id hown with ⟨hx, ⟨rfl, h2⟩ | ⟨g, cap, cur, rfl, hb0, hg, hn, hm, hs, ht⟩⟩
  · obtain rfl := List.length_eq_zero_iff.1 h2
    refine (AnyF.slices_SortFunc_none Tryz.sortFld none 0 _ w).mono ?_
    rintro e w' ⟨rfl, rfl⟩
    exact ⟨rfl, [], [], List.Perm.refl _, List.Pairwise.nil, TopF.nil _ _, World.grownBy.refl _ _⟩
  · obtain ⟨S, hS1, hS2⟩ := zipK (R := fun f c => ∀ w', KX N (some g) w w' → RepF w' f c) hel
    change List (FK N g w) at S
    subst hS1
    rw [List.length_map] at *
    have hE : E.flatten = S.flatMap fkL := by rw [← hS2, List.flatMap_def]; rfl
    rw [hE] at ht
    have hH : HoldsK fkL 6 w g 0 S.toArray := by
      intro j hj
      rw [size_flatK] at hj
      have hj' : j < S.length * 6 := by simpa using hj
      have h3 := flatF_get S j hj'
      rw [← ht, List.getElem?_take_of_lt hj'] at h3
      constructor
      · simp only [World.cell?, hg, Nat.zero_add]
        simpa using h3
      · simp [World.frozen?, hg]
    have hblk : g < w.heap.size := (Array.getElem?_eq_some_iff.1 hg).1
    have hc := AnyQ.slices_SortFunc Tryz.sortFld 6 Tryz.isAgg54 Tryz.sizeOf54 (fkL (N := N) (g := g) (w := w)) fkL_len fkL_one fkC fkC_swo 39 #[] g 0 cap S.toArray w (enters_of Tryz.func39 (by kernel_rfl) rfl) (fk_lays 0 _) hH hblk (by simp; omega)
    rw [show S.toArray.size = S.length by simp] at hc
    refine hc.mono ?_
    rintro e w' ⟨rfl, d', n, os, hp, hso, hw⟩
    have hds : d'.size = S.length := by have := hp.1; simpa using this
    have hS : SWK fkL 6 w g 0 d' w' := ⟨n, os, hw⟩
    have hH2 : HoldsK fkL 6 w' g 0 d' := by rw [hw]; exact holdsK_sortWorldK fkL 6 w g 0 n S.toArray d' os hblk hH (by simpa using hds)
    have hgr := fk_grown hS
    refine ⟨rfl, d'.toList.map (fun x => x.1.1), d'.toList.map (fun x => x.1.2), ?_, ?_, ⟨?_, ?_⟩, hgr⟩
    · obtain ⟨h5, _, hq⟩ := hp
      have e1 : (d'.extract 0 S.length).toList = d'.toList := by rw [← hds]; simp
      have e2 : (S.toArray.extract 0 S.length).toList = S := by simp
      rw [e1, e2] at hq
      exact hq.map _
    · rw [List.pairwise_map, List.pairwise_iff_getElem]
      intro i j hi hj hij
      have hi' : i < d'.size := by simpa using hi
      have hj' : j < d'.size := by simpa using hj
      have := hso i j (by omega) hij (by omega)
      simp only [ltOf, decide_eq_false_iff_not] at this
      rw [getElem!_pos d' i hi', getElem!_pos d' j hj'] at this
      have h9 := cmpS_anti (nmF (d'[j]).1.1) (nmF (d'[i]).1.1)
      simp only [Array.getElem_toList]
      unfold fkC at this
      omega
    · have := own_fk hS hb0 hg (by rw [hds]; exact hn) hm hs hH2
      rw [hds, List.flatMap_def] at this
      rw [show (d'.toList.map (fun x => x.1.1)).length = S.length by simp [hds]]
      exact this
    · exact unzipK (R := fun _ _ => True) _ _ _ (fun x _ w'' k => x.2 w'' (KX.back hgr (.inl rfl) k))
end Fd
end Go.Proofs.YtbhcfmdogdaodaaGreatDoor
namespace Go.Proofs.YtbhcfmdogdaodaaGreatDoor
open Go.RowKit
namespace Fd
open _root_.Go.Proofs.YtbhcfmdogdaodaaGreatDoor.Rw (All2 All2.get All2.length All2.mono)
theorem strSame (x y : ByteArray) : (x == y) = decide (x = y) := by
  rw [beq_toListBytes, Bool.eq_iff_iff]
  simp only [beq_iff_eq, decide_eq_true_eq, ByteArray.toList_eq]
  exact ⟨bytes_ext, fun h => by rw [h]⟩
theorem strK_ok : KeyOk Tryz.prog 9 Value.string := by
  refine KeyOk.now (kind := .string) Tryz.underlying9 (fun e x w => ?_) (fun x y => ?_) (fun x => ?_)
  · kernel_rfl
  · show some (x == y) = _
    rw [strSame]
  · show (x == x) = true
    rw [strSame]; simp
theorem zeroB (w : World) : (zeroValue 4).run Tryz.prog w = .ok (.bool false) w := by kernel_rfl
theorem wp_mapN {α β : Type} (kv : α → Value) (vv : β → Value) {P : Program} {c : Code} {Q : Exit → Act → World → Prop} {a : Act} {w : World} (h : ∀ W, Below w.heap.size w W → MapIs kv vv W w.heap.size [] → c.wp P Q a W) : c.wp P Q a (w.alloc (.map #[] 0)) :=
  h _ (ext_alloc w _) (MapIs.made kv vv w)
theorem turned_gr {w w' : World} {b : Nat} (h : w.mapTurned w' b) : w.grownBy w' (some b) := by
  obtain ⟨es, clock, es', clock', h1, rfl⟩ := h
  refine ⟨rfl, rfl, rfl, by simp [ChangeMaps.setBlock], fun k hk hr => ?_⟩
  simp only [ChangeMaps.setBlock, Array.getElem?_setIfInBounds]
  rw [if_neg (fun e => hr (by rw [e]))]
/-- the map holds the fields' names -/
def NamesOf (M : List (ByteArray × Bool)) (acc : List F) : Prop := ∀ z, ((look M z).getD false) = (lk acc z).isSome
theorem NamesOf.nil : NamesOf [] [] := fun _ => rfl
theorem lk_has {acc : List F} {z : ByteArray} : (lk acc z).isSome = true ↔ ∃ f ∈ acc, nmF f = z := by
  rw [lk_isSome, Option.isSome_iff_exists]
theorem NamesOf.put {M : List (ByteArray × Bool)} {acc : List F} (h : NamesOf M acc) (nm : ByteArray) (x : V) : NamesOf (putL M nm true) (acc ++ [.mk nm x]) := fun z => by
  rw [look_put]
  have h1 := h z
  by_cases e : z = nm
  · rw [if_pos e]
    symm
    exact lk_has.2 ⟨.mk nm x, by simp, e.symm⟩
  · rw [if_neg e, h1]
    cases hs : (lk acc z).isSome with
    | true =>
      symm
      obtain ⟨f, hf, hn⟩ := lk_has.1 hs
      exact lk_has.2 ⟨f, by simp [hf], hn⟩
    | false =>
      symm
      cases hs2 : (lk (acc ++ [.mk nm x]) z).isSome with
      | false => rfl
      | true =>
        obtain ⟨f, hf, hn⟩ := lk_has.1 hs2
        rcases List.mem_append.1 hf with hf | hf
        · rw [lk_has.2 ⟨f, hf, hn⟩] at hs; cases hs
        · simp at hf; subst hf; exact absurd hn.symm e
theorem wpList_nm {P : Program} {w : World} {ops : Array Oper} {rest : List Oper} {o : Oper} {a : Act} {Q : Exit → Act → World → Prop} (hg : o.guard = none) (m x : Operand) (t : TypeId) (hop : o.op = Op.lookup t m x false)
    {K E : TypeId} (ko : KeyOk P K Value.string) (ht : P.underlying t = some (.map K E)) (hz : (zeroValue E).run P w = .ok (.bool false) w) {b : Nat} {M : List (ByteArray × Bool)} {acc : List F}
    (hm : a.eval m = .map (some b)) (h : MapIs Value.string Value.bool w b M) (hM : NamesOf M acc) (y : ByteArray) (hx : a.eval x = .string y) (bb : Bool) (hbb : (lk acc y).isSome = bb)
    (hK : wpList P ops Q rest (a.put o.dst (.bool bb)) w) : wpList P ops Q (o :: rest) a w := by
  refine wpList_lookup_a hg m x t false hop ko ht hz hm h y hx ?_
  have e : ((look M y).map Value.bool).getD (.bool false) = .bool bb := by
    rw [← hbb, ← hM y]; cases look M y <;> rfl
  rw [if_neg (by decide), e]; exact hK
/-- names that differ -/
def DistF (acc : List F) : Prop := acc.Pairwise fun a b => nmF a ≠ nmF b
theorem DistF.push {acc : List F} (h : DistF acc) {nm : ByteArray} {x : V} (hn : (lk acc nm).isSome = false) : DistF (acc ++ [.mk nm x]) := by
  unfold DistF
  rw [List.pairwise_append]
  refine ⟨h, List.pairwise_singleton _ _, fun f hf g hg => ?_⟩
  simp at hg; subst hg
  intro e
  have h9 : (lk acc nm).isSome = true := lk_has.2 ⟨f, hf, e⟩
  rw [h9] at hn; cases hn
theorem er_top {N : Nat} {X : World} {l : List F} {v : Value} {E : List (List Value)} (h : ER RepF 54 6 N X l v E) : TopF N X l v E :=
  ⟨h.own, h.el.mono (fun _ _ h1 w' k => h1 w' (fun q hq hD => k q hD.1 hq (fun e => hD.2 e.symm)))⟩
theorem top_er {N : Nat} {X : World} {l : List F} {v : Value} {E : List (List Value)} (h : TopF N X l v E) : ER RepF 54 6 N X l v E :=
  ⟨h.own, h.el.mono (fun _ _ h1 Z hZ => h1 Z (fun q h2 h3 h4 => hZ q h3 ⟨h2, fun e => h4 e.symm⟩))⟩
end Fd
end Go.Proofs.YtbhcfmdogdaodaaGreatDoor
