/- slices.Contains at events and at strings. Maps of a call's own, as lists of pairs: any keys, any values. No program stands in it. -/
import Derived.Test.YtacchooggifnhaaDoorCl03
import Derived.Test.YtacchooggifnhaaDoorCl01
import Derived.Deep.QuietTactic
import Derived.BigQuiet
import Derived.Test.YtacchooggifnhaaDoorCl00
import Derived.Maps.OwnSet
namespace Go.Proofs.YtacchooggifnhaaDoor
open Go.RowKit
/-- an index where it is, or -1 -/
def IdxPost (p : Prop) (w : World) (e : Ending) (w' : World) : Prop := ∃ r : Int, e = .returned (.int .i64 r) ∧ (0 ≤ r ↔ p) ∧ Below w.heap.size w w'
/-- whether it is there -/
def HasPost (p : Prop) (w : World) (e : Ending) (w' : World) : Prop := ∃ b : Bool, e = .returned (.bool b) ∧ (b = true ↔ p) ∧ Below w.heap.size w w'
set_option maxHeartbeats 4000000 in
theorem index_str (L : List ByteArray) (s : ByteArray) (a : Option Addr) (c : Nat) (w : World) (hs : Sl w (.slice a L.length c) L.length (L.map Value.string)) :
    Calls Tryd.prog 22 #[.slice a L.length c, .string s] w (IdxPost (s ∈ L) w) := by
  have hl := hs.len_le
  go_enter Tryd.func22, Tryd.ntmps22
  go_wp2
  go_loop [8] (fun i => ∃ k : Nat, k ≤ L.length ∧ i = .int .i64 k ∧ Hid (∀ j x, j < k → L[j]? = some x → x ≠ s)) (fun i => L.length - (intOf i).toNat)
  case atStart => exact ⟨0, by omega, rfl, fun j x hj => by omega⟩
  case round =>
    obtain ⟨k, hk, rfl, HK⟩ := hrel
    by_cases hlt : k < L.length
    · have hgk := List.getElem?_eq_getElem hlt
      generalize L[k] = x at hgk
      obtain ⟨a', cap, hv, _, _, _, h3⟩ := id hs
      cases hv
      obtain ⟨b, o, rfl, e0⟩ := h3 k (.string x) (by rw [List.getElem?_map, hgk]; rfl)
      have HG := Lib.hid hgk
      clear h3 hgk
      by_cases hq : x = s
      · have hq1 : (s.toList == x.toList) = true := by rw [hq]; simp
        have HP : Hid (IdxPost (s ∈ L) w (.returned (.int .i64 (k : Int))) w) := ⟨k, rfl, ⟨fun _ => by rw [← hq]; exact List.mem_of_getElem? HG.out, fun _ => by omega⟩, Below.refl _ _⟩
        clear hq
        go_wp2
        go_ret
        exact HP.out
      · have hq1 : (s.toList == x.toList) = false := by
          simp only [beq_eq_false_iff_ne, ne_eq, ByteArray.toList_eq]; exact fun h => hq (bytes_ext h).symm
        have HK2 : Hid (∀ j y, j < k + 1 → L[j]? = some y → y ≠ s) := by
          intro j y hj hy
          by_cases e : j = k
          · subst e; rw [HG.out] at hy; cases hy; exact hq
          · exact HK.out j y (by omega) hy
        clear hq
        go_wp2
        go_round
        case rel => exact ⟨k + 1, by omega, by go_num, HK2⟩
        case measure => simp [intOf]; omega
    · have HP : Hid (IdxPost (s ∈ L) w (.returned (.int .i64 (-1))) w) := by
        refine ⟨-1, rfl, ⟨fun h => by omega, fun h => ?_⟩, Below.refl _ _⟩
        obtain ⟨j, hj, he⟩ := List.getElem_of_mem h
        exact absurd he (HK.out j _ (by omega) (List.getElem?_eq_getElem hj))
      go_wp2
      go_ret
      exact HP.out
set_option maxHeartbeats 4000000 in
theorem contains_str (L : List ByteArray) (s : ByteArray) (a : Option Addr) (c : Nat) (w : World) (hs : Sl w (.slice a L.length c) L.length (L.map Value.string)) :
    Calls Tryd.prog 9 #[.slice a L.length c, .string s] w (HasPost (s ∈ L) w) := by
  go_enter Tryd.func9, Tryd.ntmps9
  go_wp2_with fail
  refine (index_str L s a c _ hs).mono ?_
  rintro e w1 ⟨r, rfl, hr, hb⟩
  have HD : Hid (HasPost (s ∈ L) w (.returned (.bool (decide (0 ≤ r)))) w1) := ⟨_, rfl, by rw [decide_eq_true_iff]; exact hr, hb⟩
  clear hr
  go_wp2
  go_ret
  exact HD.out
end Go.Proofs.YtacchooggifnhaaDoor
namespace Go.Proofs.YtacchooggifnhaaDoor
open Go.RowKit
variable {α β : Type}
/-- What is asked of a key type: what the model does at its keys. -/
structure KeyOk [DecidableEq α] (P : Program) (K : TypeId) (kv : α → Value) : Prop where
  check : ∀ (e : Bool) (x : α) (w : World), (Instr.checkKey e 10000 K (kv x)).run P w = .ok () w
  find : ∀ (x : α) (es : List MapEntry) (l : List α) (w : World), es.map (·.key) = l.map kv → (Instr.findKey K (kv x) es).run P w = .ok ((l.findIdx? (fun y => decide (x = y))).bind fun i => (es[i]?).map fun e => (i, e.val)) w
  bits : ∀ x : α, Instr.sameBits 10000 (kv x) (kv x) = true
/-- Keys that the model compares at once: strings, ints, bools. -/
theorem find_now [DecidableEq α] {kind : TypeDesc} {kv : α → Value} (heq : ∀ x y : α, Instr.sameNow kind (kv x) (kv y) = some (decide (x = y))) (x : α) :
    ∀ (es : List MapEntry) (l : List α) (i : Nat), es.map (·.key) = l.map kv → Instr.findNow kind (kv x) es i = some ((l.findIdx? (fun y => decide (x = y))).bind fun j => (es[j]?).map fun e => (i + j, e.val))
  | [], [], i, _ => by simp [Instr.findNow]
  | [], _ :: _, _, h => by simp at h
  | _ :: _, [], _, h => by simp at h
  | e :: es, y :: l, i, h => by
    simp only [List.map_cons, List.cons.injEq] at h
    obtain ⟨h1, h2⟩ := h
    unfold Instr.findNow
    simp only [h1, heq]
    rw [List.findIdx?_cons]
    by_cases hxy : x = y
    · simp [hxy]
    · rw [find_now heq x es l (i + 1) h2]
      simp only [hxy, decide_false, Bool.false_eq_true, if_false]
      cases hq : l.findIdx? (fun y => decide (x = y)) with
      | none => simp
      | some j => simp [Nat.add_assoc, Nat.add_comm 1 j]
theorem KeyOk.now [DecidableEq α] {P : Program} {K : TypeId} {kv : α → Value} {kind : TypeDesc} (hu : P.underlying K = some kind) (hc : ∀ (e : Bool) (x : α) (w : World), (Instr.checkKey e 10000 K (kv x)).run P w = .ok () w)
    (heq : ∀ x y : α, Instr.sameNow kind (kv x) (kv y) = some (decide (x = y))) (hb : ∀ x : α, Instr.sameBits 10000 (kv x) (kv x) = true) : KeyOk P K kv where
  check := hc
  find x es l w h := by
    unfold Instr.findKey
    simp only [Sem.run_bind, run_underlying hu, Result.andThen_ok, find_now heq x es l 0 h, Nat.zero_add, Sem.run_pure]
  bits := hb
/-- The map that block b is, as a list of pairs. -/
def MapIs (kv : α → Value) (vv : β → Value) (w : World) (b : Nat) (l : List (α × β)) : Prop :=
  ∃ (es : Array MapEntry) (clock : Nat), w.heap[b]? = some (.map es clock) ∧ es.toList.map (·.key) = l.map (fun p => kv p.1) ∧ es.toList.map (·.val) = l.map (fun p => vv p.2) ∧ (∀ e ∈ es.toList, e.born < clock) ∧ es.toList.Pairwise (fun a b => a.born ≠ b.born)
/-- What a list of pairs has at a key. -/
def look [DecidableEq α] (l : List (α × β)) (x : α) : Option β := (l.find? (fun p => decide (x = p.1))).map (·.2)
/-- A list of pairs with a pair put into it. -/
def putL [DecidableEq α] : List (α × β) → α → β → List (α × β)
  | [], x, y => [(x, y)]
  | p :: l, x, y => if x = p.1 then (x, y) :: l else p :: putL l x y
theorem look_nil [DecidableEq α] (x : α) : look ([] : List (α × β)) x = none := rfl
theorem look_put [DecidableEq α] (l : List (α × β)) (x z : α) (y : β) : look (putL l x y) z = if z = x then some y else look l z := by
  induction l with
  | nil => by_cases h : z = x <;> simp [putL, look, h]
  | cons p l ih =>
    unfold putL
    by_cases hx : x = p.1
    · rw [if_pos hx]
      by_cases h : z = x
      · simp [look, h]
      · have : ¬ z = p.1 := fun e => h (e.trans hx.symm)
        simp [look, h, this]
    · rw [if_neg hx]
      by_cases h : z = p.1
      · have hzx : ¬ z = x := fun e => hx (e.symm.trans h)
        rw [if_neg hzx]; simp [look, h]
      · unfold look at ih ⊢
        simp only [List.find?_cons, h, decide_false]
        exact ih
theorem putL_length [DecidableEq α] (l : List (α × β)) (x : α) (y : β) : (putL l x y).length ≤ l.length + 1 := by
  induction l with
  | nil => simp [putL]
  | cons p l ih =>
    unfold putL; split
    · simp
    · simp only [List.length_cons]; omega
theorem MapIs.made (kv : α → Value) (vv : β → Value) (w : World) : MapIs kv vv (w.alloc (.map #[] 0)) w.heap.size [] :=
  ⟨#[], 0, by show (w.heap.push (.map #[] 0))[w.heap.size]? = _; simp, rfl, rfl, by simp, by simp⟩
theorem MapIs.lt {kv : α → Value} {vv : β → Value} {w : World} {b : Nat} {l : List (α × β)} (h : MapIs kv vv w b l) : b < w.heap.size := by
  obtain ⟨_, _, h1, _⟩ := h; exact (Array.getElem?_eq_some_iff.1 h1).1
theorem MapIs.ext {kv : α → Value} {vv : β → Value} {w w' : World} {b : Nat} {l : List (α × β)} (h : MapIs kv vv w b l) (hb : Below w.heap.size w w') : MapIs kv vv w' b l := by
  have hlt := h.lt
  obtain ⟨es, clock, h1, h2⟩ := h
  exact ⟨es, clock, (hb.block b hlt).trans h1, h2⟩
theorem MapIs.below {kv : α → Value} {vv : β → Value} {w w' : World} {b B : Nat} {l : List (α × β)} (h : MapIs kv vv w b l) (hb : Below B w w') (hB : b < B) : MapIs kv vv w' b l := by
  obtain ⟨es, clock, h1, h2⟩ := h
  exact ⟨es, clock, (hb.block b hB).trans h1, h2⟩
/-- another block than the one that grew -/
theorem MapIs.grown {kv : α → Value} {vv : β → Value} {w w' : World} {b : Nat} {l : List (α × β)} {row : Option Nat} (h : MapIs kv vv w b l) (hg : w.grownBy w' row) (hr : row ≠ some b) : MapIs kv vv w' b l := by
  have hlt := h.lt
  obtain ⟨es, clock, h1, h2⟩ := h
  exact ⟨es, clock, (hg.block b hlt (fun e => hr e.symm)).trans h1, h2⟩
theorem find_look [DecidableEq α] (l : List (α × β)) (x : α) : (((l.map (·.1)).findIdx? (fun y => decide (x = y))).bind fun i => l[i]?).map (·.2) = look l x := by
  induction l with
  | nil => rfl
  | cons p l ih =>
    rw [List.map_cons, List.findIdx?_cons]
    by_cases h : x = p.1
    · simp [look, h]
    · simp only [h, decide_false, Bool.false_eq_true, if_false]
      have e : look (p :: l) x = look l x := by simp [look, h]
      rw [e, ← ih]
      cases (l.map (·.1)).findIdx? (fun y => decide (x = y)) <;> simp
theorem keys_map {kv : α → Value} {es : List MapEntry} {l : List (α × β)} (h : es.map (·.key) = l.map (fun p => kv p.1)) : es.map (·.key) = (l.map (·.1)).map kv := by rw [h, List.map_map]; rfl
theorem found_val {vv : β → Value} {es : List MapEntry} {l : List (α × β)} (h : es.map (·.val) = l.map (fun p => vv p.2)) (o : Option Nat) :
    (o.bind fun i => (es[i]?).map fun e => (i, e.val)).map (·.2) = ((o.bind fun i => l[i]?).map (·.2)).map vv := by
  cases o with
  | none => rfl
  | some i =>
    have := congrArg (fun q : List Value => q[i]?) h
    simp only [List.getElem?_map] at this
    simp only [Option.bind_some, Option.map_map]
    have e1 : (es[i]?).map ((fun x : Nat × Value => x.2) ∘ fun e => (i, e.val)) = (es[i]?).map (·.val) := rfl
    rw [e1, this]; rfl
/-- v, ok := m[x] -/
theorem MapIs.lookup [DecidableEq α] {P : Program} {K E t : TypeId} {kv : α → Value} {vv : β → Value} {w : World} {b : Nat} {l : List (α × β)} (h : MapIs kv vv w b l) (ko : KeyOk P K kv) (ht : P.underlying t = some (.map K E)) {z : Value} (hz : (zeroValue E).run P w = .ok z w) (x : α) (c : Bool) :
    (Instr.lookup t (.map (some b)) (kv x) c).run P w = .ok (if c then .tuple #[((look l x).map vv).getD z, .bool (look l x).isSome] else ((look l x).map vv).getD z) w := by
  obtain ⟨es, clock, h1, h2, h3, _, _⟩ := h
  have hgo : (getObj b).run P w = .ok (.map es clock) w := by simp [getObj, Sem.run, h1]
  unfold Instr.lookup
  have hf := ko.find x es.toList (l.map (·.1)) w (keys_map h2)
  have hv := found_val h3 ((l.map (·.1)).findIdx? (fun y => decide (x = y)))
  rw [find_look] at hv
  simp only [Sem.run_bind, run_underlying ht, Result.andThen_ok, hgo, Sem.run_pure, ko.check, hf]
  generalize (((l.map (·.1)).findIdx? (fun y => decide (x = y))).bind fun i => (es.toList[i]?).map fun e => (i, e.val)) = q at hv
  cases q with
  | none =>
    have : (look l x).map vv = none := hv.symm
    have h0 : look l x = none := by cases hq : look l x with | none => rfl | some _ => rw [hq] at this; cases this
    simp [h0, hz]
  | some p =>
    have : (look l x).map vv = some p.2 := hv.symm
    have h0 : (look l x).isSome = true := by cases hq : look l x with | none => rw [hq] at this; cases this | some _ => rfl
    rw [this, h0]
    simp
theorem wpList_lookup_a [DecidableEq α] {P : Program} {w : World} {ops : Array Oper} {rest : List Oper} {o : Oper} {a : Act} {Q : Exit → Act → World → Prop} (hg : o.guard = none) (m x : Operand) (t : TypeId) (c : Bool) (hop : o.op = Op.lookup t m x c)
    {K E : TypeId} {kv : α → Value} {vv : β → Value} (ko : KeyOk P K kv) (ht : P.underlying t = some (.map K E)) {z : Value} (hz : (zeroValue E).run P w = .ok z w) {b : Nat} {l : List (α × β)}
    (hm : a.eval m = .map (some b)) (h : MapIs kv vv w b l) (y : α) (hx : a.eval x = kv y)
    (hK : wpList P ops Q rest (a.put o.dst (if c then .tuple #[((look l y).map vv).getD z, .bool (look l y).isSome] else ((look l y).map vv).getD z)) w) : wpList P ops Q (o :: rest) a w := by
  refine wpList_plain hg fun K' hK' => ?_
  have hrun := h.lookup ko ht hz y c
  unfold Oper.wp
  simp only [execOp, hop, hm, hx, Sem.run_bind, hrun, Result.andThen_ok, Sem.run_pure]
  exact hK' _ _ hK
theorem turned_cell {w w' : World} {b : Nat} (h : w.mapTurned w' b) (a : Addr) : w'.cell? a = w.cell? a := by
  obtain ⟨es, clock, es', clock', h1, rfl⟩ := h
  simp only [World.cell?, ChangeMaps.setBlock, Array.getElem?_setIfInBounds]
  by_cases hb : b = a.block
  · subst hb
    have hlt := (Array.getElem?_eq_some_iff.1 h1).1
    simp only [if_true, hlt, h1]
  · rw [if_neg hb]
theorem turned_below {w w' : World} {b B : Nat} (h : w.mapTurned w' b) (hB : B ≤ b) : Below B w w' := by
  obtain ⟨es, clock, es', clock', h1, rfl⟩ := h
  refine ⟨rfl, rfl, rfl, by simp [ChangeMaps.setBlock], fun k hk => ?_⟩
  simp only [ChangeMaps.setBlock, Array.getElem?_setIfInBounds]
  rw [if_neg (by omega)]
/-- v, ok := m[x], x being there -/
theorem wpList_lookup_hit [DecidableEq α] {P : Program} {w : World} {ops : Array Oper} {rest : List Oper} {o : Oper} {a : Act} {Q : Exit → Act → World → Prop} (hg : o.guard = none) (m x : Operand) (t : TypeId) (hop : o.op = Op.lookup t m x true)
    {K E : TypeId} {kv : α → Value} {vv : β → Value} (ko : KeyOk P K kv) (ht : P.underlying t = some (.map K E)) {z : Value} (hz : (zeroValue E).run P w = .ok z w) {b : Nat} {l : List (α × β)}
    (hm : a.eval m = .map (some b)) (h : MapIs kv vv w b l) (y : α) (hx : a.eval x = kv y) (v : β) (hl : look l y = some v)
    (hK : wpList P ops Q rest (a.put o.dst (.tuple #[vv v, .bool true])) w) : wpList P ops Q (o :: rest) a w := by
  refine wpList_lookup_a hg m x t true hop ko ht hz hm h y hx ?_
  rw [hl]; exact hK
/-- v, ok := m[x], x not being there -/
theorem wpList_lookup_miss [DecidableEq α] {P : Program} {w : World} {ops : Array Oper} {rest : List Oper} {o : Oper} {a : Act} {Q : Exit → Act → World → Prop} (hg : o.guard = none) (m x : Operand) (t : TypeId) (hop : o.op = Op.lookup t m x true)
    {K E : TypeId} {kv : α → Value} {vv : β → Value} (ko : KeyOk P K kv) (ht : P.underlying t = some (.map K E)) {z : Value} (hz : (zeroValue E).run P w = .ok z w) {b : Nat} {l : List (α × β)}
    (hm : a.eval m = .map (some b)) (h : MapIs kv vv w b l) (y : α) (hx : a.eval x = kv y) (hl : look l y = none)
    (hK : wpList P ops Q rest (a.put o.dst (.tuple #[z, .bool false])) w) : wpList P ops Q (o :: rest) a w := by
  refine wpList_lookup_a hg m x t true hop ko ht hz hm h y hx ?_
  rw [hl]; exact hK
/-- a row of the call's own beside a map that turns -/
theorem ownsRow_turned {w w' : World} {b base e size n : Nat} {v : Value} {xs : List Value} (h : w.ownsRow base e size v n xs) (ht : w.mapTurned w' b) : w'.ownsRow base e size v n xs := by
  obtain ⟨h1, h2⟩ := h
  refine ⟨h1, ?_⟩
  rcases h2 with h2 | ⟨g, cap, cur, hv, hbg, hg, h3⟩
  · exact .inl h2
  · refine .inr ⟨g, cap, cur, hv, hbg, ?_, h3⟩
    obtain ⟨es, clock, es', clock', k1, rfl⟩ := ht
    simp only [ChangeMaps.setBlock, Array.getElem?_setIfInBounds]
    rw [if_neg (fun e => by subst e; rw [hg] at k1; cases k1)]; exact hg
theorem turned_size {w w' : World} {b : Nat} (h : w.mapTurned w' b) : w'.heap.size = w.heap.size := by
  obtain ⟨es, clock, es', clock', h1, rfl⟩ := h
  simp [ChangeMaps.setBlock]
/-- below B every cell reads as it did -/
def CellsKept (B : Nat) (w w' : World) : Prop := w.heap.size ≤ w'.heap.size ∧ ∀ b o, b < B → w'.cell? ⟨b, o, none⟩ = w.cell? ⟨b, o, none⟩
theorem CellsKept.refl (B : Nat) (w : World) : CellsKept B w w := ⟨Nat.le_refl _, fun _ _ _ => rfl⟩
theorem CellsKept.below {B : Nat} {w w1 w2 : World} (h : CellsKept B w w1) (hb : Below B w1 w2) : CellsKept B w w2 :=
  ⟨Nat.le_trans h.1 hb.size, fun b o hB => (hb.cell (p := ⟨b, o, none⟩) hB).trans (h.2 b o hB)⟩
theorem CellsKept.ext {B : Nat} {w w1 w2 : World} (h : CellsKept B w w1) (hB : B ≤ w.heap.size) (hb : Below w1.heap.size w1 w2) : CellsKept B w w2 := h.below (hb.mono (Nat.le_trans hB h.1))
theorem CellsKept.sl {w w' : World} {v : Value} {n : Nat} {cs : List Value} (h : CellsKept w.heap.size w w') (s : Sl w v n cs) : Sl w' v n cs := by
  obtain ⟨a, cap, hv, h1, h2, h0, h3⟩ := s
  refine ⟨a, cap, hv, h1, h2, h0, fun i x hx => ?_⟩
  obtain ⟨b, o, ha, hc⟩ := h3 i x hx
  exact ⟨b, o, ha, (h.2 b (o + i) (World.block_lt_of_cell? w _ hc)).trans hc⟩
theorem putL_set [DecidableEq α] (l : List (α × β)) (x : α) (y : β) : ∀ i, (l.map (·.1)).findIdx? (fun z => decide (x = z)) = some i → putL l x y = l.set i (x, y) ∧ i < l.length ∧ (l[i]?).map (·.1) = some x := by
  induction l with
  | nil => intro i h; simp at h
  | cons p l ih =>
    intro i h
    rw [List.map_cons, List.findIdx?_cons] at h
    by_cases hx : x = p.1
    · simp only [hx, decide_true, if_true, Option.some.injEq] at h
      subst h
      exact ⟨by rw [putL, if_pos hx]; rfl, by simp, by simp [hx]⟩
    · simp only [hx, decide_false, Bool.false_eq_true, if_false, Option.map_eq_some_iff] at h
      obtain ⟨j, hj, rfl⟩ := h
      obtain ⟨h1, h2, h3⟩ := ih j hj
      exact ⟨by rw [putL, if_neg hx, h1]; rfl, by simp; omega, by simpa using h3⟩
theorem putL_new [DecidableEq α] (l : List (α × β)) (x : α) (y : β) (h : (l.map (·.1)).findIdx? (fun z => decide (x = z)) = none) : putL l x y = l ++ [(x, y)] := by
  induction l with
  | nil => rfl
  | cons p l ih =>
    rw [List.map_cons, List.findIdx?_cons] at h
    by_cases hx : x = p.1
    · simp [hx] at h
    · simp only [hx, decide_false, Bool.false_eq_true, if_false, Option.map_eq_none_iff] at h
      rw [putL, if_neg hx, ih h]; rfl
theorem modify_list {γ : Type} (es : Array γ) (i : Nat) (f : γ → γ) : (es.modify i f).toList = es.toList.modify i f := by simp
theorem map_modify_key (es : List MapEntry) (i : Nat) (k v : Value) : (es.modify i fun e => { e with key := k, val := v }).map (·.key) = (es.map (·.key)).set i k ∧ (es.modify i fun e => { e with key := k, val := v }).map (·.val) = (es.map (·.val)).set i v ∧ (es.modify i fun e => { e with key := k, val := v }).map (·.born) = es.map (·.born) := by
  induction es generalizing i with
  | nil => cases i <;> simp
  | cons e es ih =>
    cases i with
    | zero => simp
    | succ i => obtain ⟨h1, h2, h3⟩ := ih i; simp only [List.modify_succ_cons, List.map_cons, List.set_cons_succ, h1, h2, h3, and_self]
theorem born_ok {es es' : List MapEntry} (h : es'.map (·.born) = es.map (·.born)) {clock : Nat} (h1 : ∀ e ∈ es, e.born < clock) (h2 : es.Pairwise (fun a b => a.born ≠ b.born)) : (∀ e ∈ es', e.born < clock) ∧ es'.Pairwise (fun a b => a.born ≠ b.born) := by
  constructor
  · intro e he
    have : e.born ∈ es.map (·.born) := by rw [← h]; exact List.mem_map_of_mem he
    obtain ⟨e', he', hb⟩ := List.mem_map.1 this
    rw [← hb]; exact h1 e' he'
  · have h3 : (es.map (·.born)).Pairwise (· ≠ ·) := List.pairwise_map.2 h2
    rw [← h] at h3
    exact List.pairwise_map.1 h3
/-- m[x] = y -/
theorem MapIs.update [DecidableEq α] {P : Program} {K E t : TypeId} {kv : α → Value} {vv : β → Value} {w : World} {b : Nat} {l : List (α × β)} (h : MapIs kv vv w b l) (ko : KeyOk P K kv) (ht : P.underlying t = some (.map K E)) (x : α) (y : β) :
    ∃ w', (Instr.mapUpdate t (.map (some b)) (kv x) (vv y)).run P w = .ok () w' ∧ MapIs kv vv w' b (putL l x y) ∧ w.mapTurned w' b := by
  obtain ⟨es, clock, h1, h2, h3, h4, h5⟩ := h
  have hlt := (Array.getElem?_eq_some_iff.1 h1).1
  have hgo : (getObj b).run P w = .ok (.map es clock) w := by simp [getObj, Sem.run, h1]
  have hso : ∀ o, (setObj b o).run P w = .ok () (ChangeMaps.setBlock w b o) := fun o => by simp [setObj, Sem.run, h1, ChangeMaps.setBlock]
  have hf := ko.find x es.toList (l.map (·.1)) w (keys_map h2)
  unfold Instr.mapUpdate
  simp only [Sem.run_bind, run_underlying ht, Result.andThen_ok, hgo, ko.check, hf]
  cases hq : (l.map (·.1)).findIdx? (fun z => decide (x = z)) with
  | none =>
    refine ⟨_, by simp only [Option.bind_none, hso]; rfl, ?_, ⟨es, clock, _, _, h1, rfl⟩⟩
    rw [putL_new l x y hq]
    refine ⟨es.push { key := kv x, val := vv y, born := clock }, clock + 1, by simp [ChangeMaps.setBlock, hlt], by simp [h2], by simp [h3], fun e he => ?_, ?_⟩
    · simp only [Array.toList_push, List.mem_append, List.mem_singleton] at he
      rcases he with he | rfl
      · have := h4 e he; omega
      · exact Nat.lt_succ_self _
    · simp only [Array.toList_push, List.pairwise_append]
      exact ⟨h5, by simp, fun a ha c hc => by simp only [List.mem_singleton] at hc; subst hc; have := h4 a ha; show a.born ≠ clock; omega⟩
  | some i =>
    obtain ⟨p1, p2, p3⟩ := putL_set l x y i hq
    have hlen : es.toList.length = l.length := by have := congrArg List.length h2; simpa using this
    have hi : i < es.size := by rw [← Array.length_toList, hlen]; exact p2
    have hkey : (es[i]?).map (·.key) = some (kv x) := by
      have := congrArg (fun q : List Value => q[i]?) h2
      simp only [List.getElem?_map, Array.getElem?_toList] at this
      rw [this]
      have e : (l[i]?).map (fun p => kv p.1) = ((l[i]?).map (·.1)).map kv := by rw [Option.map_map]; rfl
      rw [e, p3]; rfl
    have hes : es.toList[i]? = some es[i] := by simp [hi]
    obtain ⟨m1, m2, m3⟩ := map_modify_key es.toList i (kv x) (vv y)
    obtain ⟨b1, b2⟩ := born_ok (es' := (es.modify i fun e => { e with key := kv x, val := vv y }).toList) (by rw [modify_list]; exact m3) h4 h5
    refine ⟨_, by simp only [Option.bind_some, hes, Option.map_some, hkey, Option.getD_some, Instr.keyThatStays, ko.bits, if_true, Sem.run_bind, Sem.run_pure, Result.andThen_ok, hso]; rfl, ?_, ⟨es, clock, _, _, h1, rfl⟩⟩
    refine ⟨es.modify i fun e => { e with key := kv x, val := vv y }, clock, by simp [ChangeMaps.setBlock, hlt], ?_, ?_, b1, b2⟩
    · rw [modify_list, m1, h2, p1, List.map_set]
    · rw [modify_list, m2, h3, p1, List.map_set]
theorem wpList_update_a [DecidableEq α] {P : Program} {w : World} {ops : Array Oper} {rest : List Oper} {o : Oper} {a : Act} {Q : Exit → Act → World → Prop} (hg : o.guard = none) (m x v : Operand) (t : TypeId) (hop : o.op = Op.mapUpdate t m x v)
    {K E : TypeId} {kv : α → Value} {vv : β → Value} (ko : KeyOk P K kv) (ht : P.underlying t = some (.map K E)) {b : Nat} {l : List (α × β)}
    (hm : a.eval m = .map (some b)) (h : MapIs kv vv w b l) (p : α) (hx : a.eval x = kv p) (q : β) (hv : a.eval v = vv q)
    (hK : ∀ w', MapIs kv vv w' b (putL l p q) → w.mapTurned w' b → wpList P ops Q rest (a.put o.dst undef) w') : wpList P ops Q (o :: rest) a w := by
  refine wpList_plain hg fun K' hK' => ?_
  obtain ⟨w', hrun, r1, r2⟩ := h.update ko ht p q
  unfold Oper.wp
  simp [execOp, hop, hm, hx, hv, hrun, Result.andThen]
  exact hK' _ _ (hK w' r1 r2)
end Go.Proofs.YtacchooggifnhaaDoor
