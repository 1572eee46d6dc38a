/- Maps of a call's own, as lists of pairs: any keys, any values. No program stands in it. Plain: the subjects of an experiment, and the keys that are mixed. No program stands in it. -/
import Derived.Test.YtacchooggifnhaaTv00
import Derived.Maps.OwnSet
import Derived.Test.YtacchooggifnhaaTv01
namespace Go.Proofs.Ytacchooggifnhaa
open Go.RowKit
variable {α β : Type}
/-- What is asked of a key type: what the model does at its keys. -/
structure KeyOk [DecidableEq α] (P : Program) (K : TypeId) (kv : α → Value) : Prop where
  check : ∀ (e : Bool) (x : α) (w : World), (Instr.checkKey e 10000 K (kv x)).run P w = .ok () w
  find : ∀ (x : α) (es : List MapEntry) (l : List α) (w : World), es.map (·.key) = l.map kv → (Instr.findKey K (kv x) es).run P w = .ok ((l.findIdx? (fun y => decide (x = y))).bind fun i => (es[i]?).map fun e => (i, e.val)) w
  bits : ∀ x : α, Instr.sameBits 10000 (kv x) (kv x) = true
/-- Keys that the model compares at once: strings, ints, bools. -/
theorem find_now [DecidableEq α] {kind : TypeDesc} {kv : α → Value} (heq : ∀ x y : α, Instr.sameNow kind (kv x) (kv y) = some (decide (x = y))) (x : α) :
    ∀ (es : List MapEntry) (l : List α) (i : Nat), es.map (·.key) = l.map kv → Instr.findNow kind (kv x) es i = some ((l.findIdx? (fun y => decide (x = y))).bind fun j => (es[j]?).map fun e => (i + j, e.val))
  | [], [], i, _ => by simp [Instr.findNow]
  | [], _ :: _, _, h => by simp at h
  | _ :: _, [], _, h => by simp at h
  | e :: es, y :: l, i, h => by
    simp only [List.map_cons, List.cons.injEq] at h
    obtain ⟨h1, h2⟩ := h
    unfold Instr.findNow
    simp only [h1, heq]
    rw [List.findIdx?_cons]
    by_cases hxy : x = y
    · simp [hxy]
    · rw [find_now heq x es l (i + 1) h2]
      simp only [hxy, decide_false, Bool.false_eq_true, if_false]
      cases hq : l.findIdx? (fun y => decide (x = y)) with
      | none => simp
      | some j => simp [Nat.add_assoc, Nat.add_comm 1 j]
theorem KeyOk.now [DecidableEq α] {P : Program} {K : TypeId} {kv : α → Value} {kind : TypeDesc} (hu : P.underlying K = some kind) (hc : ∀ (e : Bool) (x : α) (w : World), (Instr.checkKey e 10000 K (kv x)).run P w = .ok () w)
    (heq : ∀ x y : α, Instr.sameNow kind (kv x) (kv y) = some (decide (x = y))) (hb : ∀ x : α, Instr.sameBits 10000 (kv x) (kv x) = true) : KeyOk P K kv where
  check := hc
  find x es l w h := by
    unfold Instr.findKey
    simp only [Sem.run_bind, run_underlying hu, Result.andThen_ok, find_now heq x es l 0 h, Nat.zero_add, Sem.run_pure]
  bits := hb
/-- The map that block b is, as a list of pairs. -/
def MapIs (kv : α → Value) (vv : β → Value) (w : World) (b : Nat) (l : List (α × β)) : Prop :=
  ∃ (es : Array MapEntry) (clock : Nat), w.heap[b]? = some (.map es clock) ∧ es.toList.map (·.key) = l.map (fun p => kv p.1) ∧ es.toList.map (·.val) = l.map (fun p => vv p.2) ∧ (∀ e ∈ es.toList, e.born < clock) ∧ es.toList.Pairwise (fun a b => a.born ≠ b.born)
/-- What a list of pairs has at a key. -/
def look [DecidableEq α] (l : List (α × β)) (x : α) : Option β := (l.find? (fun p => decide (x = p.1))).map (·.2)
/-- A list of pairs with a pair put into it. -/
def putL [DecidableEq α] : List (α × β) → α → β → List (α × β)
  | [], x, y => [(x, y)]
  | p :: l, x, y => if x = p.1 then (x, y) :: l else p :: putL l x y
theorem putL_length [DecidableEq α] (l : List (α × β)) (x : α) (y : β) : (putL l x y).length ≤ l.length + 1 := by
  induction l with
  | nil => simp [putL]
  | cons p l ih =>
    unfold putL; split
    · simp
    · simp only [List.length_cons]; omega
theorem MapIs.made (kv : α → Value) (vv : β → Value) (w : World) : MapIs kv vv (w.alloc (.map #[] 0)) w.heap.size [] :=
  ⟨#[], 0, by show (w.heap.push (.map #[] 0))[w.heap.size]? = _; simp, rfl, rfl, by simp, by simp⟩
theorem MapIs.lt {kv : α → Value} {vv : β → Value} {w : World} {b : Nat} {l : List (α × β)} (h : MapIs kv vv w b l) : b < w.heap.size := by
  obtain ⟨_, _, h1, _⟩ := h; exact (Array.getElem?_eq_some_iff.1 h1).1
theorem MapIs.ext {kv : α → Value} {vv : β → Value} {w w' : World} {b : Nat} {l : List (α × β)} (h : MapIs kv vv w b l) (hb : Below w.heap.size w w') : MapIs kv vv w' b l := by
  have hlt := h.lt
  obtain ⟨es, clock, h1, h2⟩ := h
  exact ⟨es, clock, (hb.block b hlt).trans h1, h2⟩
theorem MapIs.below {kv : α → Value} {vv : β → Value} {w w' : World} {b B : Nat} {l : List (α × β)} (h : MapIs kv vv w b l) (hb : Below B w w') (hB : b < B) : MapIs kv vv w' b l := by
  obtain ⟨es, clock, h1, h2⟩ := h
  exact ⟨es, clock, (hb.block b hB).trans h1, h2⟩
/-- another block than the one that grew -/
theorem MapIs.grown {kv : α → Value} {vv : β → Value} {w w' : World} {b : Nat} {l : List (α × β)} {row : Option Nat} (h : MapIs kv vv w b l) (hg : w.grownBy w' row) (hr : row ≠ some b) : MapIs kv vv w' b l := by
  have hlt := h.lt
  obtain ⟨es, clock, h1, h2⟩ := h
  exact ⟨es, clock, (hg.block b hlt (fun e => hr e.symm)).trans h1, h2⟩
theorem find_look [DecidableEq α] (l : List (α × β)) (x : α) : (((l.map (·.1)).findIdx? (fun y => decide (x = y))).bind fun i => l[i]?).map (·.2) = look l x := by
  induction l with
  | nil => rfl
  | cons p l ih =>
    rw [List.map_cons, List.findIdx?_cons]
    by_cases h : x = p.1
    · simp [look, h]
    · simp only [h, decide_false, Bool.false_eq_true, if_false]
      have e : look (p :: l) x = look l x := by simp [look, h]
      rw [e, ← ih]
      cases (l.map (·.1)).findIdx? (fun y => decide (x = y)) <;> simp
theorem keys_map {kv : α → Value} {es : List MapEntry} {l : List (α × β)} (h : es.map (·.key) = l.map (fun p => kv p.1)) : es.map (·.key) = (l.map (·.1)).map kv := by rw [h, List.map_map]; rfl
theorem found_val {vv : β → Value} {es : List MapEntry} {l : List (α × β)} (h : es.map (·.val) = l.map (fun p => vv p.2)) (o : Option Nat) :
    (o.bind fun i => (es[i]?).map fun e => (i, e.val)).map (·.2) = ((o.bind fun i => l[i]?).map (·.2)).map vv := by
  cases o with
  | none => rfl
  | some i =>
    have := congrArg (fun q : List Value => q[i]?) h
    simp only [List.getElem?_map] at this
    simp only [Option.bind_some, Option.map_map]
    have e1 : (es[i]?).map ((fun x : Nat × Value => x.2) ∘ fun e => (i, e.val)) = (es[i]?).map (·.val) := rfl
    rw [e1, this]; rfl
/-- v, ok := m[x] -/
theorem MapIs.lookup [DecidableEq α] {P : Program} {K E t : TypeId} {kv : α → Value} {vv : β → Value} {w : World} {b : Nat} {l : List (α × β)} (h : MapIs kv vv w b l) (ko : KeyOk P K kv) (ht : P.underlying t = some (.map K E)) {z : Value} (hz : (zeroValue E).run P w = .ok z w) (x : α) (c : Bool) :
    (Instr.lookup t (.map (some b)) (kv x) c).run P w = .ok (if c then .tuple #[((look l x).map vv).getD z, .bool (look l x).isSome] else ((look l x).map vv).getD z) w := by
  obtain ⟨es, clock, h1, h2, h3, _, _⟩ := h
  have hgo : (getObj b).run P w = .ok (.map es clock) w := by simp [getObj, Sem.run, h1]
  unfold Instr.lookup
  have hf := ko.find x es.toList (l.map (·.1)) w (keys_map h2)
  have hv := found_val h3 ((l.map (·.1)).findIdx? (fun y => decide (x = y)))
  rw [find_look] at hv
  simp only [Sem.run_bind, run_underlying ht, Result.andThen_ok, hgo, Sem.run_pure, ko.check, hf]
  generalize (((l.map (·.1)).findIdx? (fun y => decide (x = y))).bind fun i => (es.toList[i]?).map fun e => (i, e.val)) = q at hv
  cases q with
  | none =>
    have : (look l x).map vv = none := hv.symm
    have h0 : look l x = none := by cases hq : look l x with | none => rfl | some _ => rw [hq] at this; cases this
    simp [h0, hz]
  | some p =>
    have : (look l x).map vv = some p.2 := hv.symm
    have h0 : (look l x).isSome = true := by cases hq : look l x with | none => rw [hq] at this; cases this | some _ => rfl
    rw [this, h0]
    simp
theorem wpList_lookup_a [DecidableEq α] {P : Program} {w : World} {ops : Array Oper} {rest : List Oper} {o : Oper} {a : Act} {Q : Exit → Act → World → Prop} (hg : o.guard = none) (m x : Operand) (t : TypeId) (c : Bool) (hop : o.op = Op.lookup t m x c)
    {K E : TypeId} {kv : α → Value} {vv : β → Value} (ko : KeyOk P K kv) (ht : P.underlying t = some (.map K E)) {z : Value} (hz : (zeroValue E).run P w = .ok z w) {b : Nat} {l : List (α × β)}
    (hm : a.eval m = .map (some b)) (h : MapIs kv vv w b l) (y : α) (hx : a.eval x = kv y)
    (hK : wpList P ops Q rest (a.put o.dst (if c then .tuple #[((look l y).map vv).getD z, .bool (look l y).isSome] else ((look l y).map vv).getD z)) w) : wpList P ops Q (o :: rest) a w := by
  refine wpList_plain hg fun K' hK' => ?_
  have hrun := h.lookup ko ht hz y c
  unfold Oper.wp
  simp only [execOp, hop, hm, hx, Sem.run_bind, hrun, Result.andThen_ok, Sem.run_pure]
  exact hK' _ _ hK
theorem turned_cell {w w' : World} {b : Nat} (h : w.mapTurned w' b) (a : Addr) : w'.cell? a = w.cell? a := by
  obtain ⟨es, clock, es', clock', h1, rfl⟩ := h
  simp only [World.cell?, ChangeMaps.setBlock, Array.getElem?_setIfInBounds]
  by_cases hb : b = a.block
  · subst hb
    have hlt := (Array.getElem?_eq_some_iff.1 h1).1
    simp only [if_true, hlt, h1]
  · rw [if_neg hb]
theorem turned_below {w w' : World} {b B : Nat} (h : w.mapTurned w' b) (hB : B ≤ b) : Below B w w' := by
  obtain ⟨es, clock, es', clock', h1, rfl⟩ := h
  refine ⟨rfl, rfl, rfl, by simp [ChangeMaps.setBlock], fun k hk => ?_⟩
  simp only [ChangeMaps.setBlock, Array.getElem?_setIfInBounds]
  rw [if_neg (by omega)]
/-- v, ok := m[x], x being there -/
theorem wpList_lookup_hit [DecidableEq α] {P : Program} {w : World} {ops : Array Oper} {rest : List Oper} {o : Oper} {a : Act} {Q : Exit → Act → World → Prop} (hg : o.guard = none) (m x : Operand) (t : TypeId) (hop : o.op = Op.lookup t m x true)
    {K E : TypeId} {kv : α → Value} {vv : β → Value} (ko : KeyOk P K kv) (ht : P.underlying t = some (.map K E)) {z : Value} (hz : (zeroValue E).run P w = .ok z w) {b : Nat} {l : List (α × β)}
    (hm : a.eval m = .map (some b)) (h : MapIs kv vv w b l) (y : α) (hx : a.eval x = kv y) (v : β) (hl : look l y = some v)
    (hK : wpList P ops Q rest (a.put o.dst (.tuple #[vv v, .bool true])) w) : wpList P ops Q (o :: rest) a w := by
  refine wpList_lookup_a hg m x t true hop ko ht hz hm h y hx ?_
  rw [hl]; exact hK
/-- v, ok := m[x], x not being there -/
theorem wpList_lookup_miss [DecidableEq α] {P : Program} {w : World} {ops : Array Oper} {rest : List Oper} {o : Oper} {a : Act} {Q : Exit → Act → World → Prop} (hg : o.guard = none) (m x : Operand) (t : TypeId) (hop : o.op = Op.lookup t m x true)
    {K E : TypeId} {kv : α → Value} {vv : β → Value} (ko : KeyOk P K kv) (ht : P.underlying t = some (.map K E)) {z : Value} (hz : (zeroValue E).run P w = .ok z w) {b : Nat} {l : List (α × β)}
    (hm : a.eval m = .map (some b)) (h : MapIs kv vv w b l) (y : α) (hx : a.eval x = kv y) (hl : look l y = none)
    (hK : wpList P ops Q rest (a.put o.dst (.tuple #[z, .bool false])) w) : wpList P ops Q (o :: rest) a w := by
  refine wpList_lookup_a hg m x t true hop ko ht hz hm h y hx ?_
  rw [hl]; exact hK
theorem turned_size {w w' : World} {b : Nat} (h : w.mapTurned w' b) : w'.heap.size = w.heap.size := by
  obtain ⟨es, clock, es', clock', h1, rfl⟩ := h
  simp [ChangeMaps.setBlock]
/-- below B every cell reads as it did -/
def CellsKept (B : Nat) (w w' : World) : Prop := w.heap.size ≤ w'.heap.size ∧ ∀ b o, b < B → w'.cell? ⟨b, o, none⟩ = w.cell? ⟨b, o, none⟩
theorem CellsKept.refl (B : Nat) (w : World) : CellsKept B w w := ⟨Nat.le_refl _, fun _ _ _ => rfl⟩
theorem CellsKept.below {B : Nat} {w w1 w2 : World} (h : CellsKept B w w1) (hb : Below B w1 w2) : CellsKept B w w2 :=
  ⟨Nat.le_trans h.1 hb.size, fun b o hB => (hb.cell (p := ⟨b, o, none⟩) hB).trans (h.2 b o hB)⟩
theorem CellsKept.ext {B : Nat} {w w1 w2 : World} (h : CellsKept B w w1) (hB : B ≤ w.heap.size) (hb : Below w1.heap.size w1 w2) : CellsKept B w w2 := h.below (hb.mono (Nat.le_trans hB h.1))
theorem putL_set [DecidableEq α] (l : List (α × β)) (x : α) (y : β) : ∀ i, (l.map (·.1)).findIdx? (fun z => decide (x = z)) = some i → putL l x y = l.set i (x, y) ∧ i < l.length ∧ (l[i]?).map (·.1) = some x := by
  induction l with
  | nil => intro i h; simp at h
  | cons p l ih =>
    intro i h
    rw [List.map_cons, List.findIdx?_cons] at h
    by_cases hx : x = p.1
    · simp only [hx, decide_true, if_true, Option.some.injEq] at h
      subst h
      exact ⟨by rw [putL, if_pos hx]; rfl, by simp, by simp [hx]⟩
    · simp only [hx, decide_false, Bool.false_eq_true, if_false, Option.map_eq_some_iff] at h
      obtain ⟨j, hj, rfl⟩ := h
      obtain ⟨h1, h2, h3⟩ := ih j hj
      exact ⟨by rw [putL, if_neg hx, h1]; rfl, by simp; omega, by simpa using h3⟩
theorem putL_new [DecidableEq α] (l : List (α × β)) (x : α) (y : β) (h : (l.map (·.1)).findIdx? (fun z => decide (x = z)) = none) : putL l x y = l ++ [(x, y)] := by
  induction l with
  | nil => rfl
  | cons p l ih =>
    rw [List.map_cons, List.findIdx?_cons] at h
    by_cases hx : x = p.1
    · simp [hx] at h
    · simp only [hx, decide_false, Bool.false_eq_true, if_false, Option.map_eq_none_iff] at h
      rw [putL, if_neg hx, ih h]; rfl
theorem modify_list {γ : Type} (es : Array γ) (i : Nat) (f : γ → γ) : (es.modify i f).toList = es.toList.modify i f := by simp
theorem map_modify_key (es : List MapEntry) (i : Nat) (k v : Value) : (es.modify i fun e => { e with key := k, val := v }).map (·.key) = (es.map (·.key)).set i k ∧ (es.modify i fun e => { e with key := k, val := v }).map (·.val) = (es.map (·.val)).set i v ∧ (es.modify i fun e => { e with key := k, val := v }).map (·.born) = es.map (·.born) := by
  induction es generalizing i with
  | nil => cases i <;> simp
  | cons e es ih =>
    cases i with
    | zero => simp
    | succ i => obtain ⟨h1, h2, h3⟩ := ih i; simp only [List.modify_succ_cons, List.map_cons, List.set_cons_succ, h1, h2, h3, and_self]
theorem born_ok {es es' : List MapEntry} (h : es'.map (·.born) = es.map (·.born)) {clock : Nat} (h1 : ∀ e ∈ es, e.born < clock) (h2 : es.Pairwise (fun a b => a.born ≠ b.born)) : (∀ e ∈ es', e.born < clock) ∧ es'.Pairwise (fun a b => a.born ≠ b.born) := by
  constructor
  · intro e he
    have : e.born ∈ es.map (·.born) := by rw [← h]; exact List.mem_map_of_mem he
    obtain ⟨e', he', hb⟩ := List.mem_map.1 this
    rw [← hb]; exact h1 e' he'
  · have h3 : (es.map (·.born)).Pairwise (· ≠ ·) := List.pairwise_map.2 h2
    rw [← h] at h3
    exact List.pairwise_map.1 h3
/-- m[x] = y -/
theorem MapIs.update [DecidableEq α] {P : Program} {K E t : TypeId} {kv : α → Value} {vv : β → Value} {w : World} {b : Nat} {l : List (α × β)} (h : MapIs kv vv w b l) (ko : KeyOk P K kv) (ht : P.underlying t = some (.map K E)) (x : α) (y : β) :
    ∃ w', (Instr.mapUpdate t (.map (some b)) (kv x) (vv y)).run P w = .ok () w' ∧ MapIs kv vv w' b (putL l x y) ∧ w.mapTurned w' b := by
  obtain ⟨es, clock, h1, h2, h3, h4, h5⟩ := h
  have hlt := (Array.getElem?_eq_some_iff.1 h1).1
  have hgo : (getObj b).run P w = .ok (.map es clock) w := by simp [getObj, Sem.run, h1]
  have hso : ∀ o, (setObj b o).run P w = .ok () (ChangeMaps.setBlock w b o) := fun o => by simp [setObj, Sem.run, h1, ChangeMaps.setBlock]
  have hf := ko.find x es.toList (l.map (·.1)) w (keys_map h2)
  unfold Instr.mapUpdate
  simp only [Sem.run_bind, run_underlying ht, Result.andThen_ok, hgo, ko.check, hf]
  cases hq : (l.map (·.1)).findIdx? (fun z => decide (x = z)) with
  | none =>
    refine ⟨_, by simp only [Option.bind_none, hso]; rfl, ?_, ⟨es, clock, _, _, h1, rfl⟩⟩
    rw [putL_new l x y hq]
    refine ⟨es.push { key := kv x, val := vv y, born := clock }, clock + 1, by simp [ChangeMaps.setBlock, hlt], by simp [h2], by simp [h3], fun e he => ?_, ?_⟩
    · simp only [Array.toList_push, List.mem_append, List.mem_singleton] at he
      rcases he with he | rfl
      · have := h4 e he; omega
      · exact Nat.lt_succ_self _
    · simp only [Array.toList_push, List.pairwise_append]
      exact ⟨h5, by simp, fun a ha c hc => by simp only [List.mem_singleton] at hc; subst hc; have := h4 a ha; show a.born ≠ clock; omega⟩
  | some i =>
    obtain ⟨p1, p2, p3⟩ := putL_set l x y i hq
    have hlen : es.toList.length = l.length := by have := congrArg List.length h2; simpa using this
    have hi : i < es.size := by rw [← Array.length_toList, hlen]; exact p2
    have hkey : (es[i]?).map (·.key) = some (kv x) := by
      have := congrArg (fun q : List Value => q[i]?) h2
      simp only [List.getElem?_map, Array.getElem?_toList] at this
      rw [this]
      have e : (l[i]?).map (fun p => kv p.1) = ((l[i]?).map (·.1)).map kv := by rw [Option.map_map]; rfl
      rw [e, p3]; rfl
    have hes : es.toList[i]? = some es[i] := by simp [hi]
    obtain ⟨m1, m2, m3⟩ := map_modify_key es.toList i (kv x) (vv y)
    obtain ⟨b1, b2⟩ := born_ok (es' := (es.modify i fun e => { e with key := kv x, val := vv y }).toList) (by rw [modify_list]; exact m3) h4 h5
    refine ⟨_, by simp only [Option.bind_some, hes, Option.map_some, hkey, Option.getD_some, Instr.keyThatStays, ko.bits, if_true, Sem.run_bind, Sem.run_pure, Result.andThen_ok, hso]; rfl, ?_, ⟨es, clock, _, _, h1, rfl⟩⟩
    refine ⟨es.modify i fun e => { e with key := kv x, val := vv y }, clock, by simp [ChangeMaps.setBlock, hlt], ?_, ?_, b1, b2⟩
    · rw [modify_list, m1, h2, p1, List.map_set]
    · rw [modify_list, m2, h3, p1, List.map_set]
theorem wpList_update_a [DecidableEq α] {P : Program} {w : World} {ops : Array Oper} {rest : List Oper} {o : Oper} {a : Act} {Q : Exit → Act → World → Prop} (hg : o.guard = none) (m x v : Operand) (t : TypeId) (hop : o.op = Op.mapUpdate t m x v)
    {K E : TypeId} {kv : α → Value} {vv : β → Value} (ko : KeyOk P K kv) (ht : P.underlying t = some (.map K E)) {b : Nat} {l : List (α × β)}
    (hm : a.eval m = .map (some b)) (h : MapIs kv vv w b l) (p : α) (hx : a.eval x = kv p) (q : β) (hv : a.eval v = vv q)
    (hK : ∀ w', MapIs kv vv w' b (putL l p q) → w.mapTurned w' b → wpList P ops Q rest (a.put o.dst undef) w') : wpList P ops Q (o :: rest) a w := by
  refine wpList_plain hg fun K' hK' => ?_
  obtain ⟨w', hrun, r1, r2⟩ := h.update ko ht p q
  unfold Oper.wp
  simp [execOp, hop, hm, hx, hv, hrun, Result.andThen]
  exact hK' _ _ (hK w' r1 r2)
end Go.Proofs.Ytacchooggifnhaa
namespace Go.Proofs.Ytacchooggifnhaa
namespace Ex
/-- a subject -/
structure Sbj where
  key : ByteArray
  time : Int
  arm : Int
  count : Int
  sum : Int
  early : Int
  earlySum : Int
  closed : Bool
abbrev sbC (s : Sbj) : Array Value := #[.string s.key, .int .i64 s.time, .int .i64 s.arm, .int .i64 s.count, .int .i64 s.sum, .int .i64 s.early, .int .i64 s.earlySum, .bool s.closed]
def sbL (s : Sbj) : List Value := (sbC s).toList
theorem sbL_len (s : Sbj) : (sbL s).length = 8 := rfl
theorem sbL_one (s : Sbj) : ∀ v ∈ sbL s, v.oneCell' = true := by
  intro v hv
  simp only [sbL, List.mem_cons, List.not_mem_nil, or_false] at hv
  rcases hv with rfl | rfl | rfl | rfl | rfl | rfl | rfl | rfl <;> rfl
abbrev Fst := List (ByteArray × Ev)
abbrev Mix := List (ByteArray × Bool)
/-- an exposure of the experiment x -/
def isExp (x : ByteArray) (e : Ev) : Bool := decide (e.kind = 1) && decide (e.name = x)
/-- one event more -/
def stepX (x : ByteArray) (st : Fst × Mix) (e : Ev) : Fst × Mix :=
  if isExp x e then
    match look st.1 e.key with
    | none => (putL st.1 e.key e, st.2)
    | some o => (if e.time < o.time then putL st.1 e.key e else st.1, if o.arm ≠ e.arm then putL st.2 e.key true else st.2)
  else st
def expX (x : ByteArray) (l : List Ev) : Fst × Mix := l.foldl (stepX x) ([], [])
theorem expX_take {x : ByteArray} {l : List Ev} {k : Nat} {e : Ev} (h : l[k]? = some e) : expX x (l.take (k + 1)) = stepX x (expX x (l.take k)) e := by
  obtain ⟨hk, rfl⟩ := List.getElem?_eq_some_iff.1 h
  unfold expX
  rw [List.take_succ_eq_append_getElem hk, List.foldl_append]
  rfl
def keysOf (F : Fst) : List ByteArray := F.map (·.1)
theorem putL_keys {α β : Type} [DecidableEq α] : ∀ (l : List (α × β)) (x : α) (y : β), (putL l x y).map (·.1) = if x ∈ l.map (·.1) then l.map (·.1) else l.map (·.1) ++ [x]
  | [], x, y => by simp [putL]
  | p :: l, x, y => by
    unfold putL
    by_cases hx : x = p.1
    · rw [if_pos hx]; simp [hx]
    · rw [if_neg hx, List.map_cons, putL_keys l x y]
      by_cases hm : x ∈ l.map (·.1)
      · rw [if_pos hm, if_pos (by simp [hm])]; rfl
      · rw [if_neg hm, if_neg (by simp [hx]; simpa using hm)]; rfl
theorem putL_nodup {α β : Type} [DecidableEq α] {l : List (α × β)} (h : (l.map (·.1)).Nodup) (x : α) (y : β) : ((putL l x y).map (·.1)).Nodup := by
  rw [putL_keys]
  by_cases hm : x ∈ l.map (·.1)
  · rw [if_pos hm]; exact h
  · rw [if_neg hm, List.nodup_append]
    exact ⟨h, by simp, by
      intro a ha b hb
      rw [List.mem_singleton] at hb
      subst hb
      exact fun e => hm (e ▸ ha)⟩
/-- what is kept of the first exposures -/
def FirstOk (x : ByteArray) (l : List Ev) (F : Fst) : Prop := (F.map (·.1)).Nodup ∧ ∀ p ∈ F, p.2.key = p.1 ∧ p.2 ∈ l ∧ isExp x p.2 = true
theorem putL_mem {α β : Type} [DecidableEq α] : ∀ {l : List (α × β)} {x : α} {y : β} {p : α × β}, p ∈ putL l x y → p = (x, y) ∨ p ∈ l
  | [], x, y, p, h => by simp [putL] at h; exact .inl h
  | q :: l, x, y, p, h => by
    unfold putL at h
    by_cases hx : x = q.1
    · rw [if_pos hx] at h
      rcases List.mem_cons.1 h with h | h
      · exact .inl h
      · exact .inr (List.mem_cons_of_mem _ h)
    · rw [if_neg hx] at h
      rcases List.mem_cons.1 h with h | h
      · exact .inr (h ▸ List.mem_cons_self)
      · rcases putL_mem h with h | h
        · exact .inl h
        · exact .inr (List.mem_cons_of_mem _ h)
theorem step_fst (x : ByteArray) (st : Fst × Mix) (e : Ev) : (stepX x st e).1 = st.1 ∨ ((stepX x st e).1 = putL st.1 e.key e ∧ isExp x e = true) := by
  unfold stepX
  by_cases h : isExp x e = true
  · rw [if_pos h]
    cases look st.1 e.key with
    | none => exact .inr ⟨rfl, h⟩
    | some o =>
      by_cases ht : e.time < o.time
      · exact .inr ⟨if_pos ht, h⟩
      · exact .inl (if_neg ht)
  · rw [if_neg h]; exact .inl rfl
theorem first_fold (x : ByteArray) : ∀ (l : List Ev) (S : List Ev) (st : Fst × Mix), FirstOk x S st.1 → (∀ e ∈ l, e ∈ S) → FirstOk x S (l.foldl (stepX x) st).1
  | [], _, _, h, _ => h
  | e :: l, S, st, h, hm => by
    refine first_fold x l S _ ?_ (fun z hz => hm z (List.mem_cons_of_mem _ hz))
    rcases step_fst x st e with h1 | ⟨h1, h2⟩
    · rw [h1]; exact h
    · rw [h1]
      refine ⟨putL_nodup h.1 _ _, fun p hp => ?_⟩
      rcases putL_mem hp with rfl | hp
      · exact ⟨rfl, hm e List.mem_cons_self, h2⟩
      · exact h.2 p hp
theorem first_ok (x : ByteArray) (l : List Ev) : FirstOk x l (expX x l).1 := first_fold x l l ([], []) ⟨by simp, fun p hp => by cases hp⟩ (fun _ h => h)
/-- is a key mixed? -/
def mixB (M : Mix) (k : ByteArray) : Bool := (look M k).getD false
def subjOf (p : ByteArray × Ev) : Sbj := ⟨p.1, p.2.time, p.2.arm, 0, 0, 0, 0, false⟩
def AscB (l : List ByteArray) : Prop := l.Pairwise (fun a b => cmpS a b < 0)
def AscK (l : List Sbj) : Prop := l.Pairwise (fun a b => cmpS a.key b.key < 0)
theorem cmpS_ltt {a b c : ByteArray} (h : cmpS a b < 0) (k : cmpS b c < 0) : cmpS a c < 0 := by
  have h1 := cmpS_trans (a := a) (b := b) (c := c) (by omega) (by omega)
  rcases cmpS_tri a c with h2 | h2 | h2
  · omega
  · have := cmpS_zero h2
    subst this
    have := cmpS_anti b a
    omega
  · omega
/-- ascending lists with the same elements are one -/
theorem asc_one {α : Type} {f : α → ByteArray} : ∀ {M M' : List α}, M.Pairwise (fun a b => cmpS (f a) (f b) < 0) → M'.Pairwise (fun a b => cmpS (f a) (f b) < 0) → (∀ x, x ∈ M ↔ x ∈ M') → M = M'
  | [], [], _, _, _ => rfl
  | [], y :: M', _, _, h => by have := (h y).2 (by simp); cases this
  | x :: M, [], _, _, h => by have := (h x).1 (by simp); cases this
  | x :: M, y :: M', h1, h2, h => by
    obtain ⟨a1, a2⟩ := List.pairwise_cons.1 h1
    obtain ⟨b1, b2⟩ := List.pairwise_cons.1 h2
    have hxy : x = y := by
      rcases List.mem_cons.1 ((h x).1 (by simp)) with e | e
      · exact e
      · rcases List.mem_cons.1 ((h y).2 (by simp)) with e' | e'
        · exact e'.symm
        · have := a1 y e'; have := b1 x e; have := cmpS_anti (f x) (f y); omega
    subst hxy
    congr 1
    refine asc_one a2 b2 fun z => ?_
    constructor
    · intro hz
      rcases List.mem_cons.1 ((h z).1 (List.mem_cons_of_mem _ hz)) with e | e
      · subst e; have := a1 z hz; have := cmpS_self (f z); omega
      · exact e
    · intro hz
      rcases List.mem_cons.1 ((h z).2 (List.mem_cons_of_mem _ hz)) with e | e
      · subst e; have := b1 z hz; have := cmpS_self (f z); omega
      · exact e
/-- what exposed answers -/
def ExpR (F : Fst) (M : Mix) (out : List Sbj) (keys : List ByteArray) : Prop :=
  AscK out ∧ (∀ s, s ∈ out ↔ ∃ p ∈ F, mixB M p.1 = false ∧ s = subjOf p) ∧ AscB keys ∧ ∀ k, k ∈ keys ↔ k ∈ keysOf F ∧ mixB M k = true
theorem ExpR.unique {F : Fst} {M : Mix} {o o' : List Sbj} {k k' : List ByteArray} (h : ExpR F M o k) (g : ExpR F M o' k') : o = o' ∧ k = k' :=
  ⟨asc_one (f := Sbj.key) h.1 g.1 (fun s => (h.2.1 s).trans (g.2.1 s).symm), asc_one (f := id) h.2.2.1 g.2.2.1 (fun s => (h.2.2.2 s).trans (g.2.2.2 s).symm)⟩
/-- sorted, and no two alike: ascending -/
theorem asc_of_sorted {α : Type} {f : α → ByteArray} {M L : List α} (hp : M.Perm L) (hs : M.Pairwise (fun a b => ¬ cmpS (f b) (f a) < 0)) (hn : (L.map f).Nodup) : M.Pairwise (fun a b => cmpS (f a) (f b) < 0) := by
  have hn2 : (M.map f).Nodup := (hp.map f).nodup_iff.2 hn
  have h2 : M.Pairwise (fun a b => f a ≠ f b) := List.pairwise_map.1 hn2
  refine (hs.and h2).imp ?_
  rintro a b ⟨h3, h4⟩
  rcases cmpS_tri (f a) (f b) with h5 | h5 | h5
  · omega
  · exact absurd (cmpS_zero h5) h4
  · have := cmpS_anti (f a) (f b); omega
theorem filter_keys_nodup {α β : Type} {F : List (α × β)} (h : (F.map (·.1)).Nodup) (q : α × β → Bool) : ((F.filter q).map (·.1)).Nodup := by
  have : ((F.filter q).map (·.1)).Sublist (F.map (·.1)) := List.filter_sublist.map _
  exact this.nodup h
theorem expR_of {F done : Fst} {M : Mix} {out : List Sbj} {keys : List ByteArray} (hF : (F.map (·.1)).Nodup) (hd : F.Perm done)
    (ho : out.Perm ((done.filter (fun p => !mixB M p.1)).map subjOf)) (hos : out.Pairwise (fun a b => ¬ cmpS b.key a.key < 0))
    (hk : keys.Perm ((done.filter (fun p => mixB M p.1)).map (·.1))) (hks : keys.Pairwise (fun a b => ¬ cmpS b a < 0)) : ExpR F M out keys := by
  have hdn : (done.map (·.1)).Nodup := (hd.map (·.1)).nodup_iff.1 hF
  have e1 : ((done.filter (fun p => !mixB M p.1)).map subjOf).map Sbj.key = (done.filter (fun p => !mixB M p.1)).map (·.1) := by rw [List.map_map]; rfl
  refine ⟨asc_of_sorted ho hos (by rw [e1]; exact filter_keys_nodup hdn _), fun s => ?_, asc_of_sorted (f := id) hk hks (by rw [List.map_id]; exact filter_keys_nodup hdn _), fun k => ?_⟩
  · rw [ho.mem_iff, List.mem_map]
    constructor
    · rintro ⟨p, hp, rfl⟩
      obtain ⟨h1, h2⟩ := List.mem_filter.1 hp
      exact ⟨p, hd.mem_iff.2 h1, by simpa using h2, rfl⟩
    · rintro ⟨p, h1, h2, rfl⟩
      exact ⟨p, List.mem_filter.2 ⟨hd.mem_iff.1 h1, by simp [h2]⟩, rfl⟩
  · rw [hk.mem_iff, List.mem_map]
    unfold keysOf
    rw [List.mem_map]
    constructor
    · rintro ⟨p, hp, rfl⟩
      obtain ⟨h1, h2⟩ := List.mem_filter.1 hp
      exact ⟨⟨p, hd.mem_iff.2 h1, rfl⟩, h2⟩
    · rintro ⟨⟨p, h1, rfl⟩, h2⟩
      exact ⟨p, List.mem_filter.2 ⟨hd.mem_iff.1 h1, h2⟩, rfl⟩
end Ex
end Go.Proofs.Ytacchooggifnhaa
