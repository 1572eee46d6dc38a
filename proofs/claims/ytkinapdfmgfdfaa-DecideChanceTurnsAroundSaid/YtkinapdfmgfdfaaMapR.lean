/- Ranging over a map of a call's own that the round does not write: any keys, any values, in whatever order. No program stands in it. (Several texts in one: MapA, MapR.) -/
import Derived.Test.YtkinapdfmgfdfaaMem
import Derived.Maps.OwnSet
import Derived.Test.YtkinapdfmgfdfaaReg
import Derived.Maps.RangeRun
namespace Go.Proofs.Ytkinapdfmgfdfaa
open Go.RowKit
variable {α β : Type}
/-- What is asked of a key type: what the model does at its keys. -/
structure KeyOk [DecidableEq α] (P : Program) (K : TypeId) (kv : α → Value) : Prop where
  check : ∀ (e : Bool) (x : α) (w : World), (Instr.checkKey e 10000 K (kv x)).run P w = .ok () w
  find : ∀ (x : α) (es : List MapEntry) (l : List α) (w : World), es.map (·.key) = l.map kv → (Instr.findKey K (kv x) es).run P w = .ok ((l.findIdx? (fun y => decide (x = y))).bind fun i => (es[i]?).map fun e => (i, e.val)) w
  bits : ∀ x : α, Instr.sameBits 10000 (kv x) (kv x) = true
/-- Keys that the model asks by '=='. -/
theorem find_asking [DecidableEq α] {P : Program} {K : TypeId} {kv : α → Value} (heq : ∀ (x y : α) (w : World), (Op.equal K (kv x) (kv y)).run P w = .ok (decide (x = y)) w) (x : α) (w : World) :
    ∀ (es : List MapEntry) (l : List α) (i : Nat), es.map (·.key) = l.map kv → (Instr.findAsking K (kv x) es i).run P w = .ok ((l.findIdx? (fun y => decide (x = y))).bind fun j => (es[j]?).map fun e => (i + j, e.val)) w
  | [], [], i, _ => by simp [Instr.findAsking]
  | [], _ :: _, _, h => by simp at h
  | _ :: _, [], _, h => by simp at h
  | e :: es, y :: l, i, h => by
    simp only [List.map_cons, List.cons.injEq] at h
    obtain ⟨h1, h2⟩ := h
    unfold Instr.findAsking
    simp only [Sem.run_bind, h1, heq, Result.andThen_ok, Sem.run_ite]
    rw [List.findIdx?_cons]
    by_cases hxy : x = y
    · simp [hxy]
    · rw [find_asking heq x w es l (i + 1) h2]
      simp only [hxy, decide_false, Bool.false_eq_true, if_false, Option.map_eq_map]
      cases hq : l.findIdx? (fun y => decide (x = y)) with
      | none => simp
      | some j => simp [Nat.add_assoc, Nat.add_comm 1 j]
/-- Keys that the model compares at once: strings, ints, bools. -/
theorem find_now [DecidableEq α] {kind : TypeDesc} {kv : α → Value} (heq : ∀ x y : α, Instr.sameNow kind (kv x) (kv y) = some (decide (x = y))) (x : α) :
    ∀ (es : List MapEntry) (l : List α) (i : Nat), es.map (·.key) = l.map kv → Instr.findNow kind (kv x) es i = some ((l.findIdx? (fun y => decide (x = y))).bind fun j => (es[j]?).map fun e => (i + j, e.val))
  | [], [], i, _ => by simp [Instr.findNow]
  | [], _ :: _, _, h => by simp at h
  | _ :: _, [], _, h => by simp at h
  | e :: es, y :: l, i, h => by
    simp only [List.map_cons, List.cons.injEq] at h
    obtain ⟨h1, h2⟩ := h
    unfold Instr.findNow
    simp only [h1, heq]
    rw [List.findIdx?_cons]
    by_cases hxy : x = y
    · simp [hxy]
    · rw [find_now heq x es l (i + 1) h2]
      simp only [hxy, decide_false, Bool.false_eq_true, if_false]
      cases hq : l.findIdx? (fun y => decide (x = y)) with
      | none => simp
      | some j => simp [Nat.add_assoc, Nat.add_comm 1 j]
theorem KeyOk.now [DecidableEq α] {P : Program} {K : TypeId} {kv : α → Value} {kind : TypeDesc} (hu : P.underlying K = some kind) (hc : ∀ (e : Bool) (x : α) (w : World), (Instr.checkKey e 10000 K (kv x)).run P w = .ok () w)
    (heq : ∀ x y : α, Instr.sameNow kind (kv x) (kv y) = some (decide (x = y))) (hb : ∀ x : α, Instr.sameBits 10000 (kv x) (kv x) = true) : KeyOk P K kv where
  check := hc
  find x es l w h := by
    unfold Instr.findKey
    simp only [Sem.run_bind, run_underlying hu, Result.andThen_ok, find_now heq x es l 0 h, Nat.zero_add, Sem.run_pure]
  bits := hb
theorem KeyOk.asking [DecidableEq α] {P : Program} {K : TypeId} {kv : α → Value} {kind : TypeDesc} (hu : P.underlying K = some kind) (hc : ∀ (e : Bool) (x : α) (w : World), (Instr.checkKey e 10000 K (kv x)).run P w = .ok () w)
    (hno : ∀ x y : α, Instr.sameNow kind (kv x) (kv y) = none) (heq : ∀ (x y : α) (w : World), (Op.equal K (kv x) (kv y)).run P w = .ok (decide (x = y)) w) (hb : ∀ x : α, Instr.sameBits 10000 (kv x) (kv x) = true) : KeyOk P K kv where
  check := hc
  find x es l w h := by
    unfold Instr.findKey
    simp only [Sem.run_bind, run_underlying hu, Result.andThen_ok]
    cases es with
    | nil =>
      cases l with
      | nil => simp [Instr.findNow]
      | cons _ _ => simp at h
    | cons e es =>
      cases l with
      | nil => simp at h
      | cons y l =>
        have h1 : e.key = kv y := by simp at h; exact h.1
        rw [show Instr.findNow kind (kv x) (e :: es) 0 = none by simp only [Instr.findNow, h1, hno]]
        have := find_asking heq x w (e :: es) (y :: l) 0 h
        simpa using this
  bits := hb
/-- The map that block b is, as a list of pairs. -/
def MapIs (kv : α → Value) (vv : β → Value) (w : World) (b : Nat) (l : List (α × β)) : Prop :=
  ∃ (es : Array MapEntry) (clock : Nat), w.heap[b]? = some (.map es clock) ∧ es.toList.map (·.key) = l.map (fun p => kv p.1) ∧ es.toList.map (·.val) = l.map (fun p => vv p.2) ∧ (∀ e ∈ es.toList, e.born < clock) ∧ es.toList.Pairwise (fun a b => a.born ≠ b.born)
/-- What a list of pairs has at a key. -/
def look [DecidableEq α] (l : List (α × β)) (x : α) : Option β := (l.find? (fun p => decide (x = p.1))).map (·.2)
/-- A list of pairs with a pair put into it. -/
def putL [DecidableEq α] : List (α × β) → α → β → List (α × β)
  | [], x, y => [(x, y)]
  | p :: l, x, y => if x = p.1 then (x, y) :: l else p :: putL l x y
theorem look_nil [DecidableEq α] (x : α) : look ([] : List (α × β)) x = none := rfl
theorem look_put [DecidableEq α] (l : List (α × β)) (x z : α) (y : β) : look (putL l x y) z = if z = x then some y else look l z := by
  induction l with
  | nil => by_cases h : z = x <;> simp [putL, look, h]
  | cons p l ih =>
    unfold putL
    by_cases hx : x = p.1
    · rw [if_pos hx]
      by_cases h : z = x
      · simp [look, h]
      · have : ¬ z = p.1 := fun e => h (e.trans hx.symm)
        simp [look, h, this]
    · rw [if_neg hx]
      by_cases h : z = p.1
      · have hzx : ¬ z = x := fun e => hx (e.symm.trans h)
        rw [if_neg hzx]; simp [look, h]
      · unfold look at ih ⊢
        simp only [List.find?_cons, h, decide_false]
        exact ih
theorem putL_length [DecidableEq α] (l : List (α × β)) (x : α) (y : β) : (putL l x y).length ≤ l.length + 1 := by
  induction l with
  | nil => simp [putL]
  | cons p l ih =>
    unfold putL; split
    · simp
    · simp only [List.length_cons]; omega
theorem MapIs.made (kv : α → Value) (vv : β → Value) (w : World) : MapIs kv vv (w.alloc (.map #[] 0)) w.heap.size [] :=
  ⟨#[], 0, by show (w.heap.push (.map #[] 0))[w.heap.size]? = _; simp, rfl, rfl, by simp, by simp⟩
theorem MapIs.lt {kv : α → Value} {vv : β → Value} {w : World} {b : Nat} {l : List (α × β)} (h : MapIs kv vv w b l) : b < w.heap.size := by
  obtain ⟨_, _, h1, _⟩ := h; exact (Array.getElem?_eq_some_iff.1 h1).1
theorem MapIs.ext {kv : α → Value} {vv : β → Value} {w w' : World} {b : Nat} {l : List (α × β)} (h : MapIs kv vv w b l) (hb : Below w.heap.size w w') : MapIs kv vv w' b l := by
  have hlt := h.lt
  obtain ⟨es, clock, h1, h2⟩ := h
  exact ⟨es, clock, (hb.block b hlt).trans h1, h2⟩
theorem MapIs.below {kv : α → Value} {vv : β → Value} {w w' : World} {b B : Nat} {l : List (α × β)} (h : MapIs kv vv w b l) (hb : Below B w w') (hB : b < B) : MapIs kv vv w' b l := by
  obtain ⟨es, clock, h1, h2⟩ := h
  exact ⟨es, clock, (hb.block b hB).trans h1, h2⟩
/-- another block than the one that grew -/
theorem MapIs.grown {kv : α → Value} {vv : β → Value} {w w' : World} {b : Nat} {l : List (α × β)} {row : Option Nat} (h : MapIs kv vv w b l) (hg : w.grownBy w' row) (hr : row ≠ some b) : MapIs kv vv w' b l := by
  have hlt := h.lt
  obtain ⟨es, clock, h1, h2⟩ := h
  exact ⟨es, clock, (hg.block b hlt (fun e => hr e.symm)).trans h1, h2⟩
theorem find_look [DecidableEq α] (l : List (α × β)) (x : α) : (((l.map (·.1)).findIdx? (fun y => decide (x = y))).bind fun i => l[i]?).map (·.2) = look l x := by
  induction l with
  | nil => rfl
  | cons p l ih =>
    rw [List.map_cons, List.findIdx?_cons]
    by_cases h : x = p.1
    · simp [look, h]
    · simp only [h, decide_false, Bool.false_eq_true, if_false]
      have e : look (p :: l) x = look l x := by simp [look, h]
      rw [e, ← ih]
      cases (l.map (·.1)).findIdx? (fun y => decide (x = y)) <;> simp
theorem keys_map {kv : α → Value} {es : List MapEntry} {l : List (α × β)} (h : es.map (·.key) = l.map (fun p => kv p.1)) : es.map (·.key) = (l.map (·.1)).map kv := by rw [h, List.map_map]; rfl
theorem found_val {vv : β → Value} {es : List MapEntry} {l : List (α × β)} (h : es.map (·.val) = l.map (fun p => vv p.2)) (o : Option Nat) :
    (o.bind fun i => (es[i]?).map fun e => (i, e.val)).map (·.2) = ((o.bind fun i => l[i]?).map (·.2)).map vv := by
  cases o with
  | none => rfl
  | some i =>
    have := congrArg (fun q : List Value => q[i]?) h
    simp only [List.getElem?_map] at this
    simp only [Option.bind_some, Option.map_map]
    have e1 : (es[i]?).map ((fun x : Nat × Value => x.2) ∘ fun e => (i, e.val)) = (es[i]?).map (·.val) := rfl
    rw [e1, this]; rfl
/-- v, ok := m[x] -/
theorem MapIs.lookup [DecidableEq α] {P : Program} {K E t : TypeId} {kv : α → Value} {vv : β → Value} {w : World} {b : Nat} {l : List (α × β)} (h : MapIs kv vv w b l) (ko : KeyOk P K kv) (ht : P.underlying t = some (.map K E)) {z : Value} (hz : (zeroValue E).run P w = .ok z w) (x : α) (c : Bool) :
    (Instr.lookup t (.map (some b)) (kv x) c).run P w = .ok (if c then .tuple #[((look l x).map vv).getD z, .bool (look l x).isSome] else ((look l x).map vv).getD z) w := by
  obtain ⟨es, clock, h1, h2, h3, _, _⟩ := h
  have hgo : (getObj b).run P w = .ok (.map es clock) w := by simp [getObj, Sem.run, h1]
  unfold Instr.lookup
  have hf := ko.find x es.toList (l.map (·.1)) w (keys_map h2)
  have hv := found_val h3 ((l.map (·.1)).findIdx? (fun y => decide (x = y)))
  rw [find_look] at hv
  simp only [Sem.run_bind, run_underlying ht, Result.andThen_ok, hgo, Sem.run_pure, ko.check, hf]
  generalize (((l.map (·.1)).findIdx? (fun y => decide (x = y))).bind fun i => (es.toList[i]?).map fun e => (i, e.val)) = q at hv
  cases q with
  | none =>
    have : (look l x).map vv = none := hv.symm
    have h0 : look l x = none := by cases hq : look l x with | none => rfl | some _ => rw [hq] at this; cases this
    simp [h0, hz, Sem.run_bind]
  | some p =>
    have : (look l x).map vv = some p.2 := hv.symm
    have h0 : (look l x).isSome = true := by cases hq : look l x with | none => rw [hq] at this; cases this | some _ => rfl
    rw [this, h0]
    simp
theorem wpList_lookup_a [DecidableEq α] {P : Program} {w : World} {ops : Array Oper} {rest : List Oper} {o : Oper} {a : Act} {Q : Exit → Act → World → Prop} (hg : o.guard = none) (m x : Operand) (t : TypeId) (c : Bool) (hop : o.op = Op.lookup t m x c)
    {K E : TypeId} {kv : α → Value} {vv : β → Value} (ko : KeyOk P K kv) (ht : P.underlying t = some (.map K E)) {z : Value} (hz : (zeroValue E).run P w = .ok z w) {b : Nat} {l : List (α × β)}
    (hm : a.eval m = .map (some b)) (h : MapIs kv vv w b l) (y : α) (hx : a.eval x = kv y)
    (hK : wpList P ops Q rest (a.put o.dst (if c then .tuple #[((look l y).map vv).getD z, .bool (look l y).isSome] else ((look l y).map vv).getD z)) w) : wpList P ops Q (o :: rest) a w := by
  refine wpList_plain hg fun K' hK' => ?_
  have hrun := h.lookup ko ht hz y c
  unfold Oper.wp
  simp only [execOp, hop, hm, hx, Sem.run_bind, hrun, Result.andThen_ok, Sem.run_pure]
  exact hK' _ _ hK
theorem turned_cell {w w' : World} {b : Nat} (h : w.mapTurned w' b) (a : Addr) : w'.cell? a = w.cell? a := by
  obtain ⟨es, clock, es', clock', h1, rfl⟩ := h
  simp only [World.cell?, ChangeMaps.setBlock, Array.getElem?_setIfInBounds]
  by_cases hb : b = a.block
  · subst hb
    have hlt := (Array.getElem?_eq_some_iff.1 h1).1
    simp only [if_true, hlt, h1]
  · rw [if_neg hb]
theorem turned_below {w w' : World} {b B : Nat} (h : w.mapTurned w' b) (hB : B ≤ b) : Below B w w' := by
  obtain ⟨es, clock, es', clock', h1, rfl⟩ := h
  refine ⟨rfl, rfl, rfl, by simp [ChangeMaps.setBlock], fun k hk => ?_⟩
  simp only [ChangeMaps.setBlock, Array.getElem?_setIfInBounds]
  rw [if_neg (by omega)]
/-- v, ok := m[x], x being there -/
theorem wpList_lookup_hit [DecidableEq α] {P : Program} {w : World} {ops : Array Oper} {rest : List Oper} {o : Oper} {a : Act} {Q : Exit → Act → World → Prop} (hg : o.guard = none) (m x : Operand) (t : TypeId) (hop : o.op = Op.lookup t m x true)
    {K E : TypeId} {kv : α → Value} {vv : β → Value} (ko : KeyOk P K kv) (ht : P.underlying t = some (.map K E)) {z : Value} (hz : (zeroValue E).run P w = .ok z w) {b : Nat} {l : List (α × β)}
    (hm : a.eval m = .map (some b)) (h : MapIs kv vv w b l) (y : α) (hx : a.eval x = kv y) (v : β) (hl : look l y = some v)
    (hK : wpList P ops Q rest (a.put o.dst (.tuple #[vv v, .bool true])) w) : wpList P ops Q (o :: rest) a w := by
  refine wpList_lookup_a hg m x t true hop ko ht hz hm h y hx ?_
  rw [hl]; exact hK
/-- v, ok := m[x], x not being there -/
theorem wpList_lookup_miss [DecidableEq α] {P : Program} {w : World} {ops : Array Oper} {rest : List Oper} {o : Oper} {a : Act} {Q : Exit → Act → World → Prop} (hg : o.guard = none) (m x : Operand) (t : TypeId) (hop : o.op = Op.lookup t m x true)
    {K E : TypeId} {kv : α → Value} {vv : β → Value} (ko : KeyOk P K kv) (ht : P.underlying t = some (.map K E)) {z : Value} (hz : (zeroValue E).run P w = .ok z w) {b : Nat} {l : List (α × β)}
    (hm : a.eval m = .map (some b)) (h : MapIs kv vv w b l) (y : α) (hx : a.eval x = kv y) (hl : look l y = none)
    (hK : wpList P ops Q rest (a.put o.dst (.tuple #[z, .bool false])) w) : wpList P ops Q (o :: rest) a w := by
  refine wpList_lookup_a hg m x t true hop ko ht hz hm h y hx ?_
  rw [hl]; exact hK
/-- a row of the call's own beside a map that turns -/
theorem ownsRow_turned {w w' : World} {b base e size n : Nat} {v : Value} {xs : List Value} (h : w.ownsRow base e size v n xs) (ht : w.mapTurned w' b) : w'.ownsRow base e size v n xs := by
  obtain ⟨h1, h2⟩ := h
  refine ⟨h1, ?_⟩
  rcases h2 with h2 | ⟨g, cap, cur, hv, hbg, hg, h3⟩
  · exact .inl h2
  · refine .inr ⟨g, cap, cur, hv, hbg, ?_, h3⟩
    obtain ⟨es, clock, es', clock', k1, rfl⟩ := ht
    simp only [ChangeMaps.setBlock, Array.getElem?_setIfInBounds]
    rw [if_neg (fun e => by subst e; rw [hg] at k1; cases k1)]; exact hg
theorem turned_size {w w' : World} {b : Nat} (h : w.mapTurned w' b) : w'.heap.size = w.heap.size := by
  obtain ⟨es, clock, es', clock', h1, rfl⟩ := h
  simp [ChangeMaps.setBlock]
/-- below B every cell reads as it did -/
def CellsKept (B : Nat) (w w' : World) : Prop := w.heap.size ≤ w'.heap.size ∧ ∀ b o, b < B → w'.cell? ⟨b, o, none⟩ = w.cell? ⟨b, o, none⟩
theorem CellsKept.refl (B : Nat) (w : World) : CellsKept B w w := ⟨Nat.le_refl _, fun _ _ _ => rfl⟩
theorem CellsKept.below {B : Nat} {w w1 w2 : World} (h : CellsKept B w w1) (hb : Below B w1 w2) : CellsKept B w w2 :=
  ⟨Nat.le_trans h.1 hb.size, fun b o hB => (hb.cell (p := ⟨b, o, none⟩) hB).trans (h.2 b o hB)⟩
theorem CellsKept.ext {B : Nat} {w w1 w2 : World} (h : CellsKept B w w1) (hB : B ≤ w.heap.size) (hb : Below w1.heap.size w1 w2) : CellsKept B w w2 := h.below (hb.mono (Nat.le_trans hB h.1))
theorem CellsKept.turned {B b : Nat} {w w1 w2 : World} (h : CellsKept B w w1) (ht : w1.mapTurned w2 b) : CellsKept B w w2 :=
  ⟨by rw [turned_size ht]; exact h.1, fun b o hB => (turned_cell ht _).trans (h.2 b o hB)⟩
theorem CellsKept.sl {w w' : World} {v : Value} {n : Nat} {cs : List Value} (h : CellsKept w.heap.size w w') (s : Sl w v n cs) : Sl w' v n cs := by
  obtain ⟨a, cap, hv, h1, h2, h0, h3⟩ := s
  refine ⟨a, cap, hv, h1, h2, h0, fun i x hx => ?_⟩
  obtain ⟨b, o, ha, hc⟩ := h3 i x hx
  exact ⟨b, o, ha, (h.2 b (o + i) (World.block_lt_of_cell? w _ hc)).trans hc⟩
theorem putL_set [DecidableEq α] (l : List (α × β)) (x : α) (y : β) : ∀ i, (l.map (·.1)).findIdx? (fun z => decide (x = z)) = some i → putL l x y = l.set i (x, y) ∧ i < l.length ∧ (l[i]?).map (·.1) = some x := by
  induction l with
  | nil => intro i h; simp at h
  | cons p l ih =>
    intro i h
    rw [List.map_cons, List.findIdx?_cons] at h
    by_cases hx : x = p.1
    · simp only [hx, decide_true, if_true, Option.some.injEq] at h
      subst h
      exact ⟨by rw [putL, if_pos hx]; rfl, by simp, by simp [hx]⟩
    · simp only [hx, decide_false, Bool.false_eq_true, if_false, Option.map_eq_some_iff] at h
      obtain ⟨j, hj, rfl⟩ := h
      obtain ⟨h1, h2, h3⟩ := ih j hj
      exact ⟨by rw [putL, if_neg hx, h1]; rfl, by simp; omega, by simpa using h3⟩
theorem putL_new [DecidableEq α] (l : List (α × β)) (x : α) (y : β) (h : (l.map (·.1)).findIdx? (fun z => decide (x = z)) = none) : putL l x y = l ++ [(x, y)] := by
  induction l with
  | nil => rfl
  | cons p l ih =>
    rw [List.map_cons, List.findIdx?_cons] at h
    by_cases hx : x = p.1
    · simp [hx] at h
    · simp only [hx, decide_false, Bool.false_eq_true, if_false, Option.map_eq_none_iff] at h
      rw [putL, if_neg hx, ih h]; rfl
theorem modify_list {γ : Type} (es : Array γ) (i : Nat) (f : γ → γ) : (es.modify i f).toList = es.toList.modify i f := by simp
theorem map_modify_key (es : List MapEntry) (i : Nat) (k v : Value) : (es.modify i fun e => { e with key := k, val := v }).map (·.key) = (es.map (·.key)).set i k ∧ (es.modify i fun e => { e with key := k, val := v }).map (·.val) = (es.map (·.val)).set i v ∧ (es.modify i fun e => { e with key := k, val := v }).map (·.born) = es.map (·.born) := by
  induction es generalizing i with
  | nil => cases i <;> simp
  | cons e es ih =>
    cases i with
    | zero => simp
    | succ i => obtain ⟨h1, h2, h3⟩ := ih i; simp only [List.modify_succ_cons, List.map_cons, List.set_cons_succ, h1, h2, h3, and_self]
theorem born_ok {es es' : List MapEntry} (h : es'.map (·.born) = es.map (·.born)) {clock : Nat} (h1 : ∀ e ∈ es, e.born < clock) (h2 : es.Pairwise (fun a b => a.born ≠ b.born)) : (∀ e ∈ es', e.born < clock) ∧ es'.Pairwise (fun a b => a.born ≠ b.born) := by
  constructor
  · intro e he
    have : e.born ∈ es.map (·.born) := by rw [← h]; exact List.mem_map_of_mem he
    obtain ⟨e', he', hb⟩ := List.mem_map.1 this
    rw [← hb]; exact h1 e' he'
  · have h3 : (es.map (·.born)).Pairwise (· ≠ ·) := List.pairwise_map.2 h2
    rw [← h] at h3
    exact List.pairwise_map.1 h3
/-- m[x] = y -/
theorem MapIs.update [DecidableEq α] {P : Program} {K E t : TypeId} {kv : α → Value} {vv : β → Value} {w : World} {b : Nat} {l : List (α × β)} (h : MapIs kv vv w b l) (ko : KeyOk P K kv) (ht : P.underlying t = some (.map K E)) (x : α) (y : β) :
    ∃ w', (Instr.mapUpdate t (.map (some b)) (kv x) (vv y)).run P w = .ok () w' ∧ MapIs kv vv w' b (putL l x y) ∧ w.mapTurned w' b := by
  obtain ⟨es, clock, h1, h2, h3, h4, h5⟩ := h
  have hlt := (Array.getElem?_eq_some_iff.1 h1).1
  have hgo : (getObj b).run P w = .ok (.map es clock) w := by simp [getObj, Sem.run, h1]
  have hso : ∀ o, (setObj b o).run P w = .ok () (ChangeMaps.setBlock w b o) := fun o => by simp [setObj, Sem.run, h1, ChangeMaps.setBlock]
  have hf := ko.find x es.toList (l.map (·.1)) w (keys_map h2)
  unfold Instr.mapUpdate
  simp only [Sem.run_bind, run_underlying ht, Result.andThen_ok, hgo, ko.check, hf]
  cases hq : (l.map (·.1)).findIdx? (fun z => decide (x = z)) with
  | none =>
    refine ⟨_, by simp only [Option.bind_none, hso]; rfl, ?_, ⟨es, clock, _, _, h1, rfl⟩⟩
    rw [putL_new l x y hq]
    refine ⟨es.push { key := kv x, val := vv y, born := clock }, clock + 1, by simp [ChangeMaps.setBlock, hlt], by simp [h2], by simp [h3], fun e he => ?_, ?_⟩
    · simp only [Array.toList_push, List.mem_append, List.mem_singleton] at he
      rcases he with he | rfl
      · have := h4 e he; omega
      · exact Nat.lt_succ_self _
    · simp only [Array.toList_push, List.pairwise_append]
      exact ⟨h5, by simp, fun a ha c hc => by simp only [List.mem_singleton] at hc; subst hc; have := h4 a ha; show a.born ≠ clock; omega⟩
  | some i =>
    obtain ⟨p1, p2, p3⟩ := putL_set l x y i hq
    have hlen : es.toList.length = l.length := by have := congrArg List.length h2; simpa using this
    have hi : i < es.size := by rw [← Array.length_toList, hlen]; exact p2
    have hkey : (es[i]?).map (·.key) = some (kv x) := by
      have := congrArg (fun q : List Value => q[i]?) h2
      simp only [List.getElem?_map, Array.getElem?_toList] at this
      rw [this]
      have e : (l[i]?).map (fun p => kv p.1) = ((l[i]?).map (·.1)).map kv := by rw [Option.map_map]; rfl
      rw [e, p3]; rfl
    have hes : es.toList[i]? = some es[i] := by simp [hi]
    obtain ⟨m1, m2, m3⟩ := map_modify_key es.toList i (kv x) (vv y)
    obtain ⟨b1, b2⟩ := born_ok (es' := (es.modify i fun e => { e with key := kv x, val := vv y }).toList) (by rw [modify_list]; exact m3) h4 h5
    refine ⟨_, by simp only [Option.bind_some, hes, Option.map_some, hkey, Option.getD_some, Instr.keyThatStays, ko.bits, if_true, Sem.run_bind, Sem.run_pure, Result.andThen_ok, hso]; rfl, ?_, ⟨es, clock, _, _, h1, rfl⟩⟩
    refine ⟨es.modify i fun e => { e with key := kv x, val := vv y }, clock, by simp [ChangeMaps.setBlock, hlt], ?_, ?_, b1, b2⟩
    · rw [modify_list, m1, h2, p1, List.map_set]
    · rw [modify_list, m2, h3, p1, List.map_set]
theorem wpList_update_a [DecidableEq α] {P : Program} {w : World} {ops : Array Oper} {rest : List Oper} {o : Oper} {a : Act} {Q : Exit → Act → World → Prop} (hg : o.guard = none) (m x v : Operand) (t : TypeId) (hop : o.op = Op.mapUpdate t m x v)
    {K E : TypeId} {kv : α → Value} {vv : β → Value} (ko : KeyOk P K kv) (ht : P.underlying t = some (.map K E)) {b : Nat} {l : List (α × β)}
    (hm : a.eval m = .map (some b)) (h : MapIs kv vv w b l) (p : α) (hx : a.eval x = kv p) (q : β) (hv : a.eval v = vv q)
    (hK : ∀ w', MapIs kv vv w' b (putL l p q) → w.mapTurned w' b → wpList P ops Q rest (a.put o.dst undef) w') : wpList P ops Q (o :: rest) a w := by
  refine wpList_plain hg fun K' hK' => ?_
  obtain ⟨w', hrun, r1, r2⟩ := h.update ko ht p q
  unfold Oper.wp
  simp [execOp, hop, hm, hx, hv, hrun, Result.andThen]
  exact hK' _ _ (hK w' r1 r2)
end Go.Proofs.Ytkinapdfmgfdfaa
namespace Go.Proofs.Ytkinapdfmgfdfaa
open Go.RowKit
variable {α β : Type}
/-- The map in block m is being ranged over by the iterator in block it: the pairs in done have come. -/
def RangeIs (kv : α → Value) (vv : β → Value) (w : World) (m it : Nat) (l done : List (α × β)) : Prop :=
  ∃ (es : Array MapEntry) (Z D R : List (MapEntry × (α × β))) (clock since c0 : Nat) (seen : Array Nat), w.heap[m]? = some (.map es clock) ∧ w.heap[it]? = some (.mapIter (some m) since seen c0) ∧ es.toList = Z.map (·.1) ∧ l = Z.map (·.2) ∧ (∀ z ∈ Z, z.1.key = kv z.2.1 ∧ z.1.val = vv z.2.2) ∧
    Z.Pairwise (fun a b => a.1.born ≠ b.1.born) ∧ since ≤ c0 ∧ since ≤ clock ∧ (∀ z ∈ Z, z.1.born < since) ∧ (D ++ R).Perm Z ∧ seen.toList = D.map (·.1.born) ∧ done = D.map (·.2)
theorem RangeIs.keep {kv : α → Value} {vv : β → Value} {w w' : World} {m it : Nat} {l done : List (α × β)} (h : RangeIs kv vv w m it l done) (h1 : w'.heap[m]? = w.heap[m]?) (h2 : w'.heap[it]? = w.heap[it]?) : RangeIs kv vv w' m it l done := by
  obtain ⟨es, Z, D, R, clock, since, c0, seen, k1, k2, k3⟩ := h
  exact ⟨es, Z, D, R, clock, since, c0, seen, h1.trans k1, h2.trans k2, k3⟩
theorem RangeIs.lt {kv : α → Value} {vv : β → Value} {w : World} {m it : Nat} {l done : List (α × β)} (h : RangeIs kv vv w m it l done) : m < w.heap.size ∧ it < w.heap.size := by
  obtain ⟨es, Z, D, R, clock, since, c0, seen, k1, k2, _⟩ := h
  exact ⟨(Array.getElem?_eq_some_iff.1 k1).1, (Array.getElem?_eq_some_iff.1 k2).1⟩
theorem RangeIs.ext {kv : α → Value} {vv : β → Value} {w w' : World} {m it : Nat} {l done : List (α × β)} (h : RangeIs kv vv w m it l done) (hb : Below w.heap.size w w') : RangeIs kv vv w' m it l done :=
  h.keep (hb.block _ h.lt.1) (hb.block _ h.lt.2)
theorem RangeIs.len {kv : α → Value} {vv : β → Value} {w : World} {m it : Nat} {l done : List (α × β)} (h : RangeIs kv vv w m it l done) : done.length ≤ l.length ∧ ∃ rest, (done ++ rest).Perm l := by
  obtain ⟨es, Z, D, R, clock, since, c0, seen, _, _, _, rfl, _, _, _, _, _, hp, _, rfl⟩ := h
  refine ⟨?_, R.map (·.2), ?_⟩
  · have := hp.length_eq; simp at this ⊢; omega
  · have := hp.map (·.2); rwa [List.map_append] at this
theorem zip_of (kv : α → Value) (vv : β → Value) : ∀ (es : List MapEntry) (l : List (α × β)), es.map (·.key) = l.map (fun p => kv p.1) → es.map (·.val) = l.map (fun p => vv p.2) → ∃ Z : List (MapEntry × (α × β)), es = Z.map (·.1) ∧ l = Z.map (·.2) ∧ ∀ z ∈ Z, z.1.key = kv z.2.1 ∧ z.1.val = vv z.2.2
  | [], [], _, _ => ⟨[], rfl, rfl, fun z h => by cases h⟩
  | [], _ :: _, h, _ => by simp at h
  | _ :: _, [], h, _ => by simp at h
  | e :: es, p :: l, h1, h2 => by
    simp only [List.map_cons, List.cons.injEq] at h1 h2
    obtain ⟨Z, z1, z2, z3⟩ := zip_of kv vv es l h1.2 h2.2
    refine ⟨(e, p) :: Z, by rw [List.map_cons, ← z1], by rw [List.map_cons, ← z2], fun z hz => ?_⟩
    rcases List.mem_cons.1 hz with rfl | hz
    · exact ⟨h1.1, h2.1⟩
    · exact z3 z hz
/-- range m -/
theorem MapIs.range {P : Program} {K E t : TypeId} {kv : α → Value} {vv : β → Value} {w : World} {m : Nat} {l : List (α × β)} (h : MapIs kv vv w m l) (ht : P.underlying t = some (.map K E)) :
    ∃ o : Obj, (Instr.range t (.map (some m))).run P w = .ok (.pointer (some ⟨w.heap.size, 0, none⟩)) (w.alloc o) ∧ RangeIs kv vv (w.alloc o) m w.heap.size l [] := by
  obtain ⟨es, clock, h1, h2, h3, h4, h5⟩ := id h
  obtain ⟨Z, z1, z2, z3⟩ := zip_of kv vv es.toList l h2 h3
  refine ⟨.mapIter (some m) clock #[] clock, ?_, es, Z, [], Z, clock, clock, clock, #[], ?_, ?_, z1, z2, z3, ?_, Nat.le_refl _, Nat.le_refl _, ?_, by simp, rfl, rfl⟩
  · have hgo : (getObj m).run P w = .ok (.map es clock) w := by simp [getObj, Sem.run, h1]
    unfold Instr.range
    simp [Sem.run_bind, run_underlying ht, hgo]
  · rw [(ext_alloc w _).block m h.lt]; exact h1
  · show (w.heap.push _)[w.heap.size]? = _; simp
  · rw [z1] at h5; exact (List.pairwise_map (R := fun a b : MapEntry => a.born ≠ b.born)).1 h5
  · intro z hz; exact h4 _ (by rw [z1]; exact List.mem_map_of_mem hz)
/-- next: nothing is left, or a pair comes. -/
theorem RangeIs.next {P : Program} {kv : α → Value} {vv : β → Value} {w : World} {m it : Nat} {l done : List (α × β)} (h : RangeIs kv vv w m it l done) (ty : TypeId) :
    ((Instr.next (.pointer (some ⟨it, 0, none⟩)) false ty).run P w = .ok (.tuple #[.bool false]) w ∧ done.Perm l) ∨
    ∃ (p : α × β) (w' : World), (Instr.next (.pointer (some ⟨it, 0, none⟩)) false ty).run P w = .ok (.tuple #[.bool true, kv p.1, vv p.2]) w' ∧ RangeIs kv vv w' m it l (done ++ [p]) ∧
      (Instr.entry (.pointer (some ⟨it, 0, none⟩))).run P w' = .ok (.tuple #[kv p.1, vv p.2]) w' ∧ (∀ a : Addr, w'.cell? a = w.cell? a) ∧ (∀ a : Addr, w'.frozen? a = w.frozen? a) ∧ w'.heap.size = w.heap.size ∧ (∀ b, b ≠ it → w'.heap[b]? = w.heap[b]?) ∧ Below it w w' := by
  obtain ⟨es, Z, D, R, clock, since, c0, seen, k1, k2, k3, k4, k5, k6, k7, k7', k8, k9, k10, k11⟩ := h
  have hmi : m ≠ it := fun e => by subst e; rw [k1] at k2; cases k2
  have hlt := (Array.getElem?_eq_some_iff.1 k2).1
  have hold : ∀ x ∈ es.toList, x.born < since := fun x hx => by
    rw [k3] at hx; obtain ⟨z, hz, rfl⟩ := List.mem_map.1 hx; exact k8 z hz
  have hpw : (D ++ R).Pairwise (fun a b => a.1.born ≠ b.1.born) := k9.symm.pairwise k6 (fun h => h.symm)
  rcases run_next_at (P := P) w ty it m since c0 seen es clock k2 k1 hold k7 with ⟨h0, hrun⟩ | ⟨e, he, w1, hw1, hrun⟩
  · left
    refine ⟨hrun, ?_⟩
    have hR : R = [] := by
      cases R with
      | nil => rfl
      | cons z R =>
        exfalso
        have hz : z ∈ Z := k9.mem_iff.1 (by simp)
        have hin : z.1 ∈ (leftOf es seen).toList := by
          unfold leftOf
          simp only [Array.toList_filter, List.mem_filter]
          refine ⟨by rw [k3]; exact List.mem_map_of_mem hz, ?_⟩
          rw [Bool.not_eq_true', Bool.eq_false_iff]
          intro hc
          have : z.1.born ∈ seen.toList := by simpa using hc
          rw [k10] at this
          obtain ⟨d, hd, hb⟩ := List.mem_map.1 this
          exact (List.pairwise_append.1 hpw).2.2 d hd z (by simp) hb
        have := Array.eq_empty_of_size_eq_zero h0
        rw [this] at hin; cases hin
    subst hR
    rw [k4, k11]
    rw [List.append_nil] at k9
    exact k9.map _
  · right
    unfold leftOf at he
    simp only [Array.toList_filter, List.mem_filter, Bool.not_eq_true'] at he
    obtain ⟨he1, he2⟩ := he
    rw [k3] at he1
    obtain ⟨z, hz, rfl⟩ := List.mem_map.1 he1
    have hzR : z ∈ R := by
      rcases List.mem_append.1 (k9.mem_iff.2 hz) with hd | hr
      · exfalso
        have h1 : z.1.born ∈ seen.toList := by rw [k10]; exact List.mem_map.2 ⟨z, hd, rfl⟩
        have h2 : seen.contains z.1.born = true := by simpa using h1
        rw [he2] at h2; cases h2
      · exact hr
    obtain ⟨R1, R2, rfl⟩ := List.append_of_mem hzR
    have hw1h : w1.heap = w.heap := by rcases hw1 with rfl | rfl <;> rfl
    have hsame : ∀ b, b ≠ it → (ChangeMaps.setBlock w1 it (.mapIter (some m) since (seen.push z.1.born) clock)).heap[b]? = w.heap[b]? := fun b hb => by
      simp only [ChangeMaps.setBlock, Array.getElem?_setIfInBounds, hw1h]; rw [if_neg (fun e => hb e.symm)]
    have hit : (ChangeMaps.setBlock w1 it (.mapIter (some m) since (seen.push z.1.born) clock)).heap[it]? = some (.mapIter (some m) since (seen.push z.1.born) clock) := by
      simp [ChangeMaps.setBlock, hw1h, hlt]
    have hk5 := k5 z hz
    refine ⟨z.2, ChangeMaps.setBlock w1 it (.mapIter (some m) since (seen.push z.1.born) clock), by rw [hrun, hk5.1, hk5.2], ?_, ?_, ?_, ?_, ?_, hsame, ?_⟩
    · refine ⟨es, Z, D ++ [z], R1 ++ R2, clock, since, clock, seen.push z.1.born, (hsame m hmi).trans k1, hit, k3, k4, k5, k6, k7', k7', k8, ?_, ?_, ?_⟩
      · refine List.Perm.trans ?_ k9
        rw [List.append_assoc]
        have hm : (z :: (R1 ++ R2)).Perm (R1 ++ z :: R2) := List.perm_middle.symm
        exact List.Perm.append_left D hm
      · rw [Array.toList_push, k10, List.map_append]; rfl
      · rw [k11, List.map_append]; rfl
    · rw [← hk5.1, ← hk5.2]
      refine run_entry_at _ it m since seen es clock z.1 hit ((hsame m hmi).trans k1) (by rw [k3]; exact List.mem_map_of_mem hz) ?_
      rw [k3, List.map_map]
      exact List.pairwise_map.2 k6
    · intro a
      simp only [World.cell?]
      by_cases ha : a.block = it
      · rw [ha, hit, k2]
      · rw [hsame _ ha]
    · intro a
      simp only [World.frozen?]
      by_cases ha : a.block = it
      · rw [ha, hit, k2]
      · rw [hsame _ ha]
    · simp [ChangeMaps.setBlock, hw1h]
    · refine ⟨?_, ?_, ?_, ?_, fun k hk => hsame k (by omega)⟩
      · rcases hw1 with rfl | rfl <;> rfl
      · rcases hw1 with rfl | rfl <;> rfl
      · rcases hw1 with rfl | rfl <;> rfl
      · simp [ChangeMaps.setBlock, hw1h]
section
variable {P : Program} {w : World} {ops : Array Oper} {rest : List Oper} {o : Oper} {a : Act} {Q : Exit → Act → World → Prop} {kv : α → Value} {vv : β → Value} {m it : Nat} {l done : List (α × β)}
theorem wpList_range_a (hg : o.guard = none) (x : Operand) (t : TypeId) (hop : o.op = Op.range t x) {K E : TypeId} (ht : P.underlying t = some (.map K E)) (hm : a.eval x = .map (some m)) (h : MapIs kv vv w m l)
    (hK : ∀ w', RangeIs kv vv w' m w.heap.size l [] → Below w.heap.size w w' → w'.heap.size = w.heap.size + 1 → wpList P ops Q rest (a.put o.dst (.pointer (some ⟨w.heap.size, 0, none⟩))) w') : wpList P ops Q (o :: rest) a w := by
  refine wpList_plain hg fun K' hK' => ?_
  obtain ⟨ob, hrun, hr⟩ := h.range (P := P) ht
  unfold Oper.wp
  simp [execOp, hop, hm, hrun, Result.andThen]
  exact hK' _ _ (hK _ hr (ext_alloc _ _) (by simp))
/-- What a step of ranging leaves of the world. -/
structure Stepped (it : Nat) (w w' : World) : Prop where
  cell : ∀ a : Addr, w'.cell? a = w.cell? a
  frozen : ∀ a : Addr, w'.frozen? a = w.frozen? a
  size : w'.heap.size = w.heap.size
  block : ∀ b, b ≠ it → w'.heap[b]? = w.heap[b]?
  below : Below it w w'
theorem wpList_next_a (hg : o.guard = none) (x : Operand) (hop : o.op = Op.next x false) (hx : a.eval x = .pointer (some ⟨it, 0, none⟩)) (h : RangeIs kv vv w m it l done)
    (hDone : done.Perm l → wpList P ops Q rest (a.put o.dst (.tuple #[.bool false])) w)
    (hMore : ∀ (p : α × β) (w' : World), RangeIs kv vv w' m it l (done ++ [p]) → (Instr.entry (.pointer (some ⟨it, 0, none⟩))).run P w' = .ok (.tuple #[kv p.1, vv p.2]) w' → Stepped it w w' → wpList P ops Q rest (a.put o.dst (.tuple #[.bool true, kv p.1, vv p.2])) w') :
    wpList P ops Q (o :: rest) a w := by
  refine wpList_plain hg fun K' hK' => ?_
  unfold Oper.wp
  rcases h.next (P := P) o.type with ⟨hrun, hp⟩ | ⟨p, w', hrun, h1, h2, h3, h4, h5, h6, h7⟩
  · simp [execOp, hop, hx, hrun, Result.andThen]
    exact hK' _ _ (hDone hp)
  · simp [execOp, hop, hx, hrun, Result.andThen]
    exact hK' _ _ (hMore p w' h1 h2 ⟨h3, h4, h5, h6, h7⟩)
theorem wpList_entry_a (hg : o.guard = none) (x : Operand) (hop : o.op = Op.entry x) (hx : a.eval x = .pointer (some ⟨it, 0, none⟩)) {v : Value} (h : (Instr.entry (.pointer (some ⟨it, 0, none⟩))).run P w = .ok v w)
    (hK : wpList P ops Q rest (a.put o.dst v) w) : wpList P ops Q (o :: rest) a w := by
  refine wpList_plain hg fun K' hK' => ?_
  unfold Oper.wp
  simp [execOp, hop, hx, h, Result.andThen]
  exact hK' _ _ hK
end
end Go.Proofs.Ytkinapdfmgfdfaa
