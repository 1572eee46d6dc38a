/- Plain: tables of tallies. Printed by gen_tal.py. No program stands in it. 'for k, v := range m' over a map of the call's own, as a list of pairs. No program stands in it. The order of events in the form that the sort asks: the world grown alone. '==' and '!=' on events. Maps keyed by texts: to events, to bools; other blocks while they turn. Plain: the merge by symmetric comparisons sorts. slices.Compact at structs of k cells. -/
import Derived.Test.YtacchooggifnhaaTv02
import Derived.Test.YtacchooggifnhaaTv00
import Derived.Maps.RangeWalk
import Derived.Test.YtacchooggifnhaaTv01
import Derived.Shelf.SlSortCmp.KitK
import Derived.Laws.StructEq
import Derived.Sort.LotA
import Derived.Sort.Lot0
import Derived.Test.YtacchooggifnhaaProg
import Derived.Shelf.RegionOpenPlain
import Derived.Lib.SlicesCompact
import Derived.Sort.WalkB2
import Derived.Sort.WalkB12
import Derived.Deep.LoopGhost
namespace Go.Proofs.Ytacchooggifnhaa
namespace Ex
def cntB (day d a : Int) (s : Sbj) : Bool := decide (s.time / day = d) && decide (s.arm = a)
def rowT (K : List Sbj) (day d : Int) (arms : Nat) : List Int := (List.range arms).map (fun (j : Nat) => ((K.countP (cntB day d (j : Int)) : Nat) : Int))
def tabT (K : List Sbj) (day lo : Int) (n arms : Nat) : List (List Int) := (List.range n).map (fun (i : Nat) => rowT K day (lo + (i : Int)) arms)
theorem rowT_len (K : List Sbj) (day d : Int) (arms : Nat) : (rowT K day d arms).length = arms := by simp [rowT]
theorem tabT_len (K : List Sbj) (day lo : Int) (n arms : Nat) : (tabT K day lo n arms).length = n := by simp [tabT]
theorem rowT_get {K : List Sbj} {day d : Int} {arms j : Nat} (h : j < arms) : (rowT K day d arms)[j]? = some ((K.countP (cntB day d (j : Int)) : Nat) : Int) := by
  simp [rowT, h]
theorem tabT_get {K : List Sbj} {day lo : Int} {n arms i : Nat} (h : i < n) : (tabT K day lo n arms)[i]? = some (rowT K day (lo + (i : Int)) arms) := by
  simp [tabT, h]
theorem rowT_nil (day d : Int) (arms : Nat) : rowT [] day d arms = List.replicate arms 0 := by
  apply List.ext_getElem?
  intro j
  by_cases h : j < arms
  · rw [rowT_get h]; simp [h]
  · rw [List.getElem?_eq_none (by rw [rowT_len]; omega), List.getElem?_eq_none (by simp; omega)]
theorem tabT_nil (day lo : Int) (n arms : Nat) : tabT [] day lo n arms = List.replicate n (List.replicate arms 0) := by
  apply List.ext_getElem?
  intro j
  by_cases h : j < n
  · rw [tabT_get h, rowT_nil]; simp [h]
  · rw [List.getElem?_eq_none (by rw [tabT_len]; omega), List.getElem?_eq_none (by simp; omega)]
theorem rowT_other {K : List Sbj} {s : Sbj} {day d : Int} {arms : Nat} (h : s.time / day ≠ d) : rowT (K ++ [s]) day d arms = rowT K day d arms := by
  unfold rowT
  refine List.map_congr_left fun j _ => ?_
  rw [List.countP_append]
  simp [cntB, h]
theorem rowT_hit {K : List Sbj} {s : Sbj} {day d : Int} {arms j : Nat} (h : s.time / day = d) (ha : s.arm = (j : Int)) (hj : j < arms) : rowT (K ++ [s]) day d arms = (rowT K day d arms).set j (((K.countP (cntB day d (j : Int)) : Nat) : Int) + 1) := by
  apply List.ext_getElem?
  intro q
  by_cases hq : q < arms
  · rw [rowT_get hq, List.countP_append, List.getElem?_set, rowT_len]
    by_cases e : j = q
    · subst e
      rw [if_pos rfl, if_pos hj]
      simp [cntB, h, ha]
    · have hf : cntB day d (q : Int) s = false := by
        unfold cntB
        rw [ha, Bool.and_eq_false_iff]
        exact .inr (decide_eq_false (by omega))
      rw [if_neg e, rowT_get hq]
      simp [hf]
  · rw [List.getElem?_eq_none (by rw [rowT_len]; omega), List.getElem?_eq_none (by rw [List.length_set, rowT_len]; omega)]
theorem tabT_step {K : List Sbj} {s : Sbj} {day lo : Int} {n arms i j : Nat} (h : s.time / day = lo + (i : Int)) (hi : i < n) (ha : s.arm = (j : Int)) (hj : j < arms) :
    tabT (K ++ [s]) day lo n arms = (tabT K day lo n arms).set i ((rowT K day (lo + (i : Int)) arms).set j (((K.countP (cntB day (lo + (i : Int)) (j : Int)) : Nat) : Int) + 1)) := by
  apply List.ext_getElem?
  intro q
  by_cases hq : q < n
  · rw [tabT_get hq, List.getElem?_set, tabT_len]
    by_cases e : i = q
    · subst e
      rw [if_pos rfl, if_pos hi, rowT_hit h ha hj]
    · rw [if_neg e, tabT_get hq, rowT_other (by rw [h]; omega)]
  · rw [List.getElem?_eq_none (by rw [tabT_len]; omega), List.getElem?_eq_none (by rw [List.length_set, tabT_len]; omega)]
/-! ### what the table sums up to -/
theorem sum_ind (f : Nat → Int) (a : Nat) (x : Int) : ∀ n, ((List.range n).map (fun j => f j + if j = a then x else 0)).sum = ((List.range n).map f).sum + if a < n then x else 0
  | 0 => by simp
  | n + 1 => by
    rw [List.range_succ, List.map_append, List.map_append, List.sum_append, List.sum_append, sum_ind f a x n]
    simp only [List.map_cons, List.map_nil, List.sum_cons, List.sum_nil]
    by_cases h1 : a < n
    · rw [if_pos h1, if_neg (by omega), if_pos (by omega)]; omega
    · by_cases h2 : n = a
      · rw [if_neg h1, if_pos h2, if_pos (by omega)]; omega
      · rw [if_neg h1, if_neg h2, if_neg (by omega)]; omega
theorem zero_sum : ∀ n, ((List.range n).map (fun _ => (0 : Int))).sum = 0
  | 0 => rfl
  | n + 1 => by rw [List.range_succ, List.map_append, List.sum_append, zero_sum n]; rfl
theorem row_sum {K : List Sbj} {s : Sbj} {day d : Int} {arms : Nat} (ha : 0 ≤ s.arm ∧ s.arm < arms) : (rowT (K ++ [s]) day d arms).sum = (rowT K day d arms).sum + if s.time / day = d then 1 else 0 := by
  by_cases h : s.time / day = d
  · have e1 : rowT (K ++ [s]) day d arms = (List.range arms).map (fun (j : Nat) => ((K.countP (cntB day d (j : Int)) : Nat) : Int) + if j = s.arm.toNat then 1 else 0) := by
      unfold rowT
      refine List.map_congr_left fun j _ => ?_
      rw [List.countP_append]
      by_cases e : j = s.arm.toNat
      · have : s.arm = (j : Int) := by omega
        simp [cntB, h, this]
      · have : ¬ s.arm = (j : Int) := by omega
        simp [cntB, this, e]
    rw [e1, sum_ind, if_pos (by omega), if_pos h]; rfl
  · rw [rowT_other h, if_neg h]; omega
theorem tab_sum_step {K : List Sbj} {s : Sbj} {day lo : Int} {n arms : Nat} (ha : 0 ≤ s.arm ∧ s.arm < arms) (hd : lo ≤ s.time / day ∧ s.time / day < lo + (n : Int)) :
    ((tabT (K ++ [s]) day lo n arms).map List.sum).sum = ((tabT K day lo n arms).map List.sum).sum + 1 := by
  have e1 : (tabT (K ++ [s]) day lo n arms).map List.sum = (List.range n).map (fun (i : Nat) => (rowT K day (lo + (i : Int)) arms).sum + if i = (s.time / day - lo).toNat then 1 else 0) := by
    unfold tabT
    rw [List.map_map]
    refine List.map_congr_left fun i _ => ?_
    show (rowT (K ++ [s]) day (lo + (i : Int)) arms).sum = _
    rw [row_sum ha]
    by_cases e : i = (s.time / day - lo).toNat
    · rw [if_pos e, if_pos (by omega)]
    · rw [if_neg e, if_neg (by omega)]
  rw [e1, sum_ind, if_pos (by omega)]
  unfold tabT
  rw [List.map_map]; rfl
theorem tab_sum {day lo : Int} {n arms : Nat} : ∀ K : List Sbj, (∀ s ∈ K, (0 ≤ s.arm ∧ s.arm < arms) ∧ lo ≤ s.time / day ∧ s.time / day < lo + (n : Int)) → ((tabT K day lo n arms).map List.sum).sum = (K.length : Int) := by
  intro K
  have key : ∀ k, k ≤ K.length → (∀ s ∈ K, (0 ≤ s.arm ∧ s.arm < arms) ∧ lo ≤ s.time / day ∧ s.time / day < lo + (n : Int)) → ((tabT (K.take k) day lo n arms).map List.sum).sum = (k : Int) := by
    intro k
    induction k with
    | zero =>
      intro _ _
      rw [List.take_zero]
      have : (tabT [] day lo n arms).map List.sum = (List.range n).map (fun _ => (0 : Int)) := by
        unfold tabT
        rw [List.map_map]
        refine List.map_congr_left fun i _ => ?_
        show (rowT [] day (lo + (i : Int)) arms).sum = 0
        rw [rowT_nil]; simp
      rw [this, zero_sum]; rfl
    | succ k ih =>
      intro hk h
      have hg := h K[k] (List.getElem_mem _)
      rw [List.take_succ_eq_append_getElem (by omega), tab_sum_step hg.1 hg.2, ih (by omega) h]; omega
  intro h
  have := key K.length (Nat.le_refl _) h
  rwa [List.take_length] at this
/-! ### what Tallies answers -/
/-- the first and the last day of some subjects -/
def LoHi (K : List Sbj) (day : Int) (lo hi : Nat) : Prop := (∃ m ∈ K, m.time / day = (lo : Int)) ∧ (∃ m ∈ K, m.time / day = (hi : Int)) ∧ ∀ s ∈ K, (lo : Int) ≤ s.time / day ∧ s.time / day ≤ (hi : Int)
theorem LoHi.unique {K : List Sbj} {day : Int} {lo hi lo' hi' : Nat} (h : LoHi K day lo hi) (h' : LoHi K day lo' hi') : lo = lo' ∧ hi = hi' := by
  obtain ⟨⟨m, hm, e1⟩, ⟨q, hq, e2⟩, h3⟩ := h
  obtain ⟨⟨m', hm', e1'⟩, ⟨q', hq', e2'⟩, h3'⟩ := h'
  have a1 := h3 m' hm'; have a2 := h3' m hm; have a3 := h3 q' hq'; have a4 := h3' q hq
  omega
theorem LoHi.le {K : List Sbj} {day : Int} {lo hi : Nat} (h : LoHi K day lo hi) : lo ≤ hi := by
  obtain ⟨⟨m, hm, e1⟩, _, h3⟩ := h
  have := h3 m hm; omega
/-- day and row of each tally -/
def talX (K : List Sbj) (day : Int) (lo n arms : Nat) : List (Int × List Int) := (List.range n).map (fun (i : Nat) => ((lo : Int) + (i : Int), rowT K day ((lo : Int) + (i : Int)) arms))
theorem talX_rows (K : List Sbj) (day : Int) (lo n arms : Nat) : (talX K day lo n arms).map (·.2) = tabT K day (lo : Int) n arms := by simp [talX, tabT]
theorem talX_len (K : List Sbj) (day : Int) (lo n arms : Nat) : (talX K day lo n arms).length = n := by simp [talX]
/-- the table of subjects, and its fault -/
def TalR (K : List Sbj) (day : Int) (arms : Nat) (f : Int) (rows : List (Int × List Int)) : Prop :=
  (K = [] ∧ f = 0 ∧ rows = []) ∨ (K ≠ [] ∧ ∃ lo hi : Nat, LoHi K day lo hi ∧ ((20000 < hi - lo + 1 ∧ f = 2 ∧ rows = []) ∨ (hi - lo + 1 ≤ 20000 ∧ f = 0 ∧ rows = talX K day lo (hi - lo + 1) arms)))
theorem TalR.unique {K : List Sbj} {day : Int} {arms : Nat} {f f' : Int} {rows rows' : List (Int × List Int)} (h : TalR K day arms f rows) (h' : TalR K day arms f' rows') : f = f' ∧ rows = rows' := by
  rcases h with ⟨h1, h2, h3⟩ | ⟨h1, lo, hi, h2, h3⟩
  · rcases h' with ⟨h1', h2', h3'⟩ | ⟨h1', _⟩
    · exact ⟨by rw [h2, h2'], by rw [h3, h3']⟩
    · exact absurd h1 h1'
  · rcases h' with ⟨h1', h2', h3'⟩ | ⟨h1', lo', hi', h2', h3'⟩
    · exact absurd h1' h1
    · obtain ⟨rfl, rfl⟩ := h2.unique h2'
      rcases h3 with ⟨a1, a2, a3⟩ | ⟨a1, a2, a3⟩ <;> rcases h3' with ⟨b1, b2, b3⟩ | ⟨b1, b2, b3⟩
      · exact ⟨by rw [a2, b2], by rw [a3, b3]⟩
      · omega
      · omega
      · exact ⟨by rw [a2, b2], by rw [a3, b3]⟩
/-- the table has all subjects -/
theorem TalR.sum {K : List Sbj} {day : Int} {arms : Nat} {rows : List (Int × List Int)} (h : TalR K day arms 0 rows) (ha : ∀ s ∈ K, 0 ≤ s.arm ∧ s.arm < arms) : (rows.map (fun r => r.2.sum)).sum = (K.length : Int) := by
  rcases h with ⟨h1, h2, h3⟩ | ⟨h1, lo, hi, h2, ⟨h3, h4, _⟩ | ⟨h3, h4, h5⟩⟩
  · rw [h1, h3]; rfl
  · cases h4
  · subst h5
    have := tab_sum (day := day) (lo := (lo : Int)) (n := hi - lo + 1) (arms := arms) K (fun s hs => ⟨ha s hs, by have := h2.2.2 s hs; have := h2.le; omega⟩)
    rw [← this, ← talX_rows, List.map_map]; rfl
end Ex
end Go.Proofs.Ytacchooggifnhaa
namespace Go.Proofs.Ytacchooggifnhaa
open Go.RowKit Go.ChangeMaps Go.MapKept
variable {α β : Type}
/-- the loop under way: 'left' is what is still to come -/
def RangeIs (kv : α → Value) (vv : β → Value) (w : World) (b r : Nat) (l left : List (α × β)) : Prop :=
  ∃ (es : Array MapEntry) (clock since : Nat) (seen : Array Nat) (c0 : Nat), w.heap[b]? = some (.map es clock) ∧ es.toList.map (·.key) = l.map (fun p => kv p.1) ∧ es.toList.map (·.val) = l.map (fun p => vv p.2) ∧ (∀ e ∈ es.toList, e.born < clock) ∧ es.toList.Pairwise (fun a b => a.born ≠ b.born) ∧
    w.heap[r]? = some (.mapIter (some b) since seen c0) ∧ (∀ x ∈ es.toList, x.born < since) ∧ since ≤ c0 ∧ since ≤ clock ∧
    (leftOf es seen).toList.map (·.key) = left.map (fun p => kv p.1) ∧ (leftOf es seen).toList.map (·.val) = left.map (fun p => vv p.2)
theorem RangeIs.owns {kv : α → Value} {vv : β → Value} {w : World} {b r : Nat} {l left : List (α × β)} (h : RangeIs kv vv w b r l left) : MapIs kv vv w b l := by
  obtain ⟨es, clock, _, _, _, h1, h2, h3, h4, h5, _⟩ := h
  exact ⟨es, clock, h1, h2, h3, h4, h5⟩
theorem RangeIs.lt {kv : α → Value} {vv : β → Value} {w : World} {b r : Nat} {l left : List (α × β)} (h : RangeIs kv vv w b r l left) : r < w.heap.size := by
  obtain ⟨es, clock, _, _, _, _, _, _, _, _, h6, _⟩ := h
  exact (Array.getElem?_eq_some_iff.1 h6).1
theorem RangeIs.ne {kv : α → Value} {vv : β → Value} {w : World} {b r : Nat} {l left : List (α × β)} (h : RangeIs kv vv w b r l left) : r ≠ b := by
  obtain ⟨es, clock, _, _, _, h1, _, _, _, _, h6, _⟩ := h
  intro e; rw [e, h1] at h6; cases h6
theorem RangeIs.kept {kv : α → Value} {vv : β → Value} {w w' : World} {b r : Nat} {l left : List (α × β)} {row : Option Nat} (h : RangeIs kv vv w b r l left) (hg : w.grownBy w' row) (hb : row ≠ some b) (hr : row ≠ some r) : RangeIs kv vv w' b r l left := by
  have l1 := h.owns.lt
  have l2 := h.lt
  obtain ⟨es, clock, since, seen, c0, h1, h2, h3, h4, h5, h6, h7⟩ := h
  exact ⟨es, clock, since, seen, c0, (hg.block b l1 (fun e => hb e.symm)).trans h1, h2, h3, h4, h5, (hg.block r l2 (fun e => hr e.symm)).trans h6, h7⟩
theorem RangeIs.ext {kv : α → Value} {vv : β → Value} {w w' : World} {b r : Nat} {l left : List (α × β)} (h : RangeIs kv vv w b r l left) (hb : Below w.heap.size w w') : RangeIs kv vv w' b r l left := by
  have l1 := h.owns.lt
  have l2 := h.lt
  obtain ⟨es, clock, since, seen, c0, h1, h2, h3, h4, h5, h6, h7⟩ := h
  exact ⟨es, clock, since, seen, c0, (hb.block b l1).trans h1, h2, h3, h4, h5, (hb.block r l2).trans h6, h7⟩
theorem RangeIs.left_eq {kv : α → Value} {vv : β → Value} {w : World} {b r : Nat} {l left : List (α × β)} (h : RangeIs kv vv w b r l left) : w.rangeLeft b r = left.length := by
  obtain ⟨es, clock, since, seen, c0, h1, _, _, _, _, h6, _, _, _, h9, _⟩ := h
  simp only [World.rangeLeft, h1, h6]
  have := congrArg List.length h9
  simpa using this
theorem filter_erase : ∀ {L : List MapEntry} {i : Nat} {e : MapEntry}, L.Pairwise (fun a b => a.born ≠ b.born) → L[i]? = some e → L.filter (fun x => !(x.born == e.born)) = L.eraseIdx i
  | [], i, e, _, h => by simp at h
  | x :: L, 0, e, hp, h => by
    obtain rfl : x = e := by simpa using h
    obtain ⟨h1, _⟩ := List.pairwise_cons.1 hp
    rw [List.filter_cons_of_neg (by simp), List.eraseIdx_cons_zero, List.filter_eq_self]
    intro y hy
    have := h1 y hy
    simp; exact fun h => this h.symm
  | x :: L, i + 1, e, hp, h => by
    obtain ⟨h1, h2⟩ := List.pairwise_cons.1 hp
    have h' : L[i]? = some e := by simpa using h
    have hne := h1 e (List.mem_of_getElem? h')
    rw [List.filter_cons_of_pos (by simpa using hne), List.eraseIdx_cons_succ, filter_erase h2 h']
theorem map_erase {γ δ : Type} (f : γ → δ) : ∀ (L : List γ) (i : Nat), (L.eraseIdx i).map f = (L.map f).eraseIdx i
  | [], _ => by simp
  | x :: L, 0 => by simp
  | x :: L, i + 1 => by simp [map_erase f L i]
theorem erase_perm {γ : Type} : ∀ {L : List γ} {i : Nat} {x : γ}, L[i]? = some x → L.Perm (x :: L.eraseIdx i)
  | [], i, x, h => by simp at h
  | y :: L, 0, x, h => by
    obtain rfl : y = x := by simpa using h
    exact List.Perm.refl _
  | y :: L, i + 1, x, h => by
    have h' : L[i]? = some x := by simpa using h
    have := erase_perm h'
    rw [List.eraseIdx_cons_succ]
    exact (this.cons y).trans (List.Perm.swap x y _)
theorem left_list (es : Array MapEntry) (seen : Array Nat) : (leftOf es seen).toList = es.toList.filter (fun e => !seen.contains e.born) := by
  unfold leftOf; simp
theorem left_push (es : Array MapEntry) (seen : Array Nat) (b : Nat) : (leftOf es (seen.push b)).toList = (leftOf es seen).toList.filter (fun x => !(x.born == b)) := by
  rw [left_list, left_list, List.filter_filter]
  refine List.filter_congr fun x _ => ?_
  rw [contains_push]
  cases seen.contains x.born <;> cases (x.born == b) <;> rfl
/-- 'range m' -/
theorem wpList_range_a {P : Program} {w : World} {ops : Array Oper} {rest : List Oper} {o : Oper} {a : Act} {Q : Exit → Act → World → Prop} (hg : o.guard = none) (m : Operand) (t : TypeId) (hop : o.op = Op.range t m)
    {K E : TypeId} {kv : α → Value} {vv : β → Value} (ht : P.underlying t = some (.map K E)) {b : Nat} {l : List (α × β)} (hm : a.eval m = .map (some b)) (h : MapIs kv vv w b l)
    (hK : ∀ w', RangeIs kv vv w' b w.heap.size l l → Below w.heap.size w w' → wpList P ops Q rest (a.put o.dst (.pointer (some ⟨w.heap.size, 0, none⟩))) w') : wpList P ops Q (o :: rest) a w := by
  refine wpList_plain hg fun K' hK' => ?_
  have hlt := h.lt
  obtain ⟨es, clock, h1, h2, h3, h4, h5⟩ := h
  have hrun := run_range_map (P := P) w t K E b es clock ht h1
  have hb := ext_alloc w (.mapIter (some b) clock #[] clock)
  unfold Oper.wp
  simp only [execOp, hop, hm, Sem.run_bind, hrun, Result.andThen_ok, Sem.run_pure]
  refine hK' _ _ (hK _ ⟨es, clock, clock, #[], clock, (hb.block b hlt).trans h1, h2, h3, h4, h5, heap_alloc_new w _, h4, Nat.le_refl _, Nat.le_refl _, ?_, ?_⟩ hb)
  · rw [left_list, List.filter_eq_self.2 (fun _ _ => by simp)]; exact h2
  · rw [left_list, List.filter_eq_self.2 (fun _ _ => by simp)]; exact h3
/-- the step: nothing is left, or an entry has come -/
theorem wpList_next_a {P : Program} {w : World} {ops : Array Oper} {rest : List Oper} {o : Oper} {a : Act} {Q : Exit → Act → World → Prop} (hg : o.guard = none) (it : Operand) (hop : o.op = Op.next it false)
    {kv : α → Value} {vv : β → Value} {b r : Nat} {l left : List (α × β)} (hit : a.eval it = .pointer (some ⟨r, 0, none⟩)) (h : RangeIs kv vv w b r l left)
    (hDone : left = [] → wpList P ops Q rest (a.put o.dst (.tuple #[.bool false])) w)
    (hMore : ∀ (x : α) (y : β) (i : Nat) (w' : World), left[i]? = some (x, y) → RangeIs kv vv w' b r l (left.eraseIdx i) → w.grownBy w' (some r) → w'.heap.size = w.heap.size → (Instr.entry (.pointer (some ⟨r, 0, none⟩))).run P w' = .ok (.tuple #[kv x, vv y]) w' → wpList P ops Q rest (a.put o.dst (.tuple #[.bool true, kv x, vv y])) w') :
    wpList P ops Q (o :: rest) a w := by
  refine wpList_plain hg fun K' hK' => ?_
  have hne := h.ne
  obtain ⟨es, clock, since, seen, c0, h1, h2, h3, h4, h5, h6, h7, h8, h8', h9, h10⟩ := h
  unfold Oper.wp
  rcases run_next_at (P := P) w o.type r b since c0 seen es clock h6 h1 h7 h8 with ⟨h0, hrun⟩ | ⟨e, he, w1, hal, hrun⟩
  · have hl : left = [] := by
      have := congrArg List.length h9
      have h0' : (leftOf es seen).toList.length = 0 := by simpa using h0
      simp only [List.length_map] at this
      exact List.eq_nil_of_length_eq_zero (by omega)
    simp only [execOp, hop, hit, Sem.run_bind, hrun, Result.andThen_ok, Sem.run_pure]
    exact hK' _ _ (hDone hl)
  · have hr1 : w1.heap[r]? = some (.mapIter (some b) since seen c0) := by rcases hal with rfl | rfl <;> exact h6
    have hb1 : w1.heap[b]? = some (.map es clock) := by rcases hal with rfl | rfl <;> exact h1
    have hset := heap_set (o' := .mapIter (some b) since (seen.push e.born) clock) hr1
    have hb' : (setBlock w1 r (.mapIter (some b) since (seen.push e.born) clock)).heap[b]? = some (.map es clock) := (hset.2 b (fun e1 => hne e1.symm)).trans hb1
    obtain ⟨i, hi, hie⟩ := List.getElem_of_mem he
    have hie' : (leftOf es seen).toList[i]? = some e := by rw [List.getElem?_eq_getElem hi, hie]
    have hk := congrArg (fun q : List Value => q[i]?) h9
    have hv := congrArg (fun q : List Value => q[i]?) h10
    simp only [List.getElem?_map, hie', Option.map_some] at hk hv
    obtain ⟨⟨x, y⟩, hxy⟩ : ∃ p, left[i]? = some p := by
      cases hq : left[i]? with
      | none => rw [hq] at hk; cases hk
      | some p => exact ⟨p, rfl⟩
    rw [hxy] at hk hv
    have hk' : e.key = kv x := by simpa using hk
    have hv' : e.val = vv y := by simpa using hv
    have hem : e ∈ es.toList := by rw [left_list] at he; exact (List.mem_filter.1 he).1
    have hsub : (leftOf es seen).toList.Pairwise (fun a b => a.born ≠ b.born) := by rw [left_list]; exact h5.filter _
    have hen := run_entry_at (P := P) _ r b since seen es clock e hset.1 hb' hem (by
      show (es.toList.map (·.born)).Pairwise (· ≠ ·)
      rw [List.pairwise_map]; exact h5)
    rw [hk', hv'] at hen hrun
    simp only [execOp, hop, hit, Sem.run_bind, hrun, Result.andThen_ok, Sem.run_pure]
    refine hK' _ _ (hMore x y i _ hxy ⟨es, clock, since, seen.push e.born, clock, hb', h2, h3, h4, h5, hset.1, h7, h8', h8', ?_, ?_⟩ ?_ ?_ hen)
    · rw [left_push, filter_erase hsub hie', map_erase, h9, map_erase]
    · rw [left_push, filter_erase hsub hie', map_erase, h10, map_erase]
    · rcases hal with rfl | rfl <;> exact ⟨rfl, rfl, rfl, by simp [setBlock], fun i _ hi => hset.2 i (fun e1 => hi (by rw [e1]))⟩
    · rcases hal with rfl | rfl <;> simp [setBlock]
end Go.Proofs.Ytacchooggifnhaa
namespace Go.Proofs.Ytacchooggifnhaa
open Go.RowKit Go.Sort
/-- The world has grown alone: new blocks, and draws. -/
def Grew (w w' : World) : Prop := Below w.heap.size w w' ∧ w.drawn ≤ w'.drawn
abbrev S2D (W : World) (b1 : Nat) (A1 : Array Value) (b2 : Nat) (A2 : Array Value) (w' : World) : Prop :=
  S2 W b1 A1 b2 A2 w' ∧ W.drawn ≤ w'.drawn
theorem S2D.start {W : World} {b1 : Nat} {A1 : Array Value} {b2 : Nat} {A2 : Array Value} (h1 : Box W b1 A1) (h2 : Box W b2 A2) : S2D W b1 A1 b2 A2 W.drew :=
  ⟨S2.start h1 h2, Nat.le_succ _⟩
theorem S2D.alloc {W w1 : World} {b1 : Nat} {A1 : Array Value} {b2 : Nat} {A2 : Array Value} {o : Obj} (h : S2D W b1 A1 b2 A2 w1) (h1 : Box W b1 A1) (h2 : Box W b2 A2) : S2D W b1 A1 b2 A2 (w1.alloc o) :=
  ⟨S2.ext (ext_alloc _ _) h.1 h1 h2, h.2⟩
theorem S2D.grew {w W w1 : World} {b1 : Nat} {A1 : Array Value} {b2 : Nat} {A2 : Array Value} (hw : Grew w W) (h : S2D W b1 A1 b2 A2 w1) : Grew w w1 :=
  ⟨ext_trans hw.1 h.1.1, Nat.le_trans hw.2 h.2⟩
instance : Inhabited Ev := ⟨⟨⟨#[]⟩, 0, 0, 0, ⟨#[]⟩, ⟨#[]⟩, 0, 0⟩⟩
end Go.Proofs.Ytacchooggifnhaa
namespace Go.Proofs.Ytacchooggifnhaa
open Go.RowKit
theorem ev_ext {a b : Ev} (h0 : a.shard = b.shard) (h1 : a.number = b.number) (h2 : a.kind = b.kind) (h3 : a.time = b.time) (h4 : a.key = b.key) (h5 : a.name = b.name) (h6 : a.arm = b.arm) (h7 : a.n = b.n) : a = b := by
  cases a; cases b; simp_all
instance : DecidableEq Ev := fun a b => decidable_of_iff (a.shard = b.shard ∧ a.number = b.number ∧ a.kind = b.kind ∧ a.time = b.time ∧ a.key = b.key ∧ a.name = b.name ∧ a.arm = b.arm ∧ a.n = b.n)
  ⟨fun ⟨h0, h1, h2, h3, h4, h5, h6, h7⟩ => ev_ext h0 h1 h2 h3 h4 h5 h6 h7, fun h => by subst h; simp⟩
theorem toList_inj {a b : ByteArray} (h : a.toList = b.toList) : a = b := bytes_ext (by rw [← ByteArray.toList_eq, ← ByteArray.toList_eq]; exact h)
end Go.Proofs.Ytacchooggifnhaa
namespace Go.Proofs.Ytacchooggifnhaa
open Go.RowKit Go.ChangeMaps
namespace Ex
abbrev evV (e : Ev) : Value := .agg (evC e)
theorem str_same (x y : ByteArray) : (x == y) = decide (x = y) := by
  rw [beq_toListBytes, Bool.eq_iff_iff]
  simp only [beq_iff_eq, decide_eq_true_eq, ByteArray.toList_eq]
  exact ⟨bytes_ext, fun h => by rw [h]⟩
theorem str_ok : KeyOk Try.prog 9 Value.string := by
  refine KeyOk.now (kind := .string) Try.underlying9 (fun e x w => ?_) (fun x y => ?_) (fun x => ?_)
  · kernel_rfl
  · show some (x == y) = _
    rw [str_same]
  · show (x == x) = true
    rw [str_same]; simp
theorem zero_evt (w : World) : (zeroValue 42).run Try.prog w = .ok (.agg #[.string ⟨#[]⟩, .int .i64 0, .int .i64 0, .int .i64 0, .string ⟨#[]⟩, .string ⟨#[]⟩, .int .i64 0, .int .i64 0]) w := by kernel_rfl
theorem zero_bl (w : World) : (zeroValue 4).run Try.prog w = .ok (.bool false) w := by kernel_rfl
theorem turned_other {α β : Type} {kv : α → Value} {vv : β → Value} {w w' : World} {b b2 : Nat} {l : List (α × β)} (h : MapIs kv vv w b l) (ht : w.mapTurned w' b2) (hne : b ≠ b2) : MapIs kv vv w' b l := by
  obtain ⟨es, clock, h1, h2⟩ := h
  obtain ⟨es1, c1, es2, c2, k1, rfl⟩ := ht
  refine ⟨es, clock, ?_, h2⟩
  simp only [setBlock, Array.getElem?_setIfInBounds]
  rw [if_neg (fun e => hne e.symm)]; exact h1
theorem box_turned {w w' : World} {b m : Nat} {A : Array Value} (h : Box w b A) (ht : w.mapTurned w' m) : Box w' b A :=
  ⟨by rw [turned_size ht]; exact h.1, fun j => (turned_cell ht _).trans (h.2 j)⟩
/-- the eight cells of a block that is an event -/
theorem box_ev {w : World} {b : Nat} {e : Ev} (h : Box w b (evC e)) : w.cell? ⟨b, 0, none⟩ = some (.string e.shard) ∧ w.cell? ⟨b, 1, none⟩ = some (.int .i64 e.number) ∧ w.cell? ⟨b, 2, none⟩ = some (.int .i64 e.kind) ∧ w.cell? ⟨b, 3, none⟩ = some (.int .i64 e.time) ∧
      w.cell? ⟨b, 4, none⟩ = some (.string e.key) ∧ w.cell? ⟨b, 5, none⟩ = some (.string e.name) ∧ w.cell? ⟨b, 6, none⟩ = some (.int .i64 e.arm) ∧ w.cell? ⟨b, 7, none⟩ = some (.int .i64 e.n) :=
  ⟨h.2 0, h.2 1, h.2 2, h.2 3, h.2 4, h.2 5, h.2 6, h.2 7⟩
theorem wp_mapNew {α β : Type} (kv : α → Value) (vv : β → Value) {P : Program} {c : Code} {Q : Exit → Act → World → Prop} {a : Act} {w : World}
    (h : ∀ W, Below w.heap.size w W → MapIs kv vv W w.heap.size [] → c.wp P Q a W) : c.wp P Q a (w.alloc (.map #[] 0)) :=
  h _ (ext_alloc _ _) (MapIs.made kv vv w)
theorem isExp_kind {x : ByteArray} {e : Ev} (h : e.kind ≠ 1) : isExp x e = false := by unfold isExp; rw [decide_eq_false h]; rfl
theorem isExp_name {x : ByteArray} {e : Ev} (h : e.name ≠ x) : isExp x e = false := by unfold isExp; rw [decide_eq_false h]; simp
theorem isExp_yes {x : ByteArray} {e : Ev} (h : e.kind = 1) (k : e.name = x) : isExp x e = true := by unfold isExp; rw [decide_eq_true h, decide_eq_true k]; rfl
theorem step_no {x : ByteArray} {st : Fst × Mix} {e : Ev} (h : isExp x e = false) : stepX x st e = st := by unfold stepX; rw [if_neg (by rw [h]; decide)]
theorem step_new {x : ByteArray} {F : Fst} {M : Mix} {e : Ev} (h : isExp x e = true) (k : look F e.key = none) : stepX x (F, M) e = (putL F e.key e, M) := by unfold stepX; rw [if_pos h]; simp only [k]
theorem step_old {x : ByteArray} {F : Fst} {M : Mix} {e o : Ev} (h : isExp x e = true) (k : look F e.key = some o) : stepX x (F, M) e = (if e.time < o.time then putL F e.key e else F, if o.arm ≠ e.arm then putL M e.key true else M) := by unfold stepX; rw [if_pos h]; simp only [k]
end Ex
end Go.Proofs.Ytacchooggifnhaa
namespace Go.Proofs.Ytacchooggifnhaa
namespace St
open Go.Sort
variable {α : Type} [Inhabited α] {lt : α → α → Bool}
/-- where the symmetric search begins and ends -/
def s0 (a m b : Nat) : Nat := if (a + b) / 2 < m then (a + b) / 2 + m - b else a
def r0 (a m b : Nat) : Nat := if (a + b) / 2 < m then (a + b) / 2 else m
end St
end Go.Proofs.Ytacchooggifnhaa
namespace Go.Proofs.Ytacchooggifnhaa
namespace St
open Go.Shelf Go.RowKit Go.Lib Go.Sort
variable {P : Program} {α : Type} [Inhabited α]
theorem setMany_put (enc : α → List Value) (k : Nat) (hk : ∀ x, (enc x).length = k) (d : Array α) (i : Nat) (hi : i < d.size) (y : α) :
    setMany (flatK enc k d) (i * k) (enc y) = flatK enc k (d.setIfInBounds i y) := by
  refine ext_get! (by simp) fun t ht => ?_
  have ht' : t < d.size * k := by simpa using ht
  have k0 : 0 < k := by
    rcases Nat.eq_zero_or_pos k with h | h
    · subst h; simp at ht'
    · exact h
  rw [get_setMany _ _ _ t (by simpa using ht'), get_flatK _ _ _ t ht', get_flatK _ _ _ t (by simpa using ht'), hk]
  have m : ∀ q, t / k = q → t - q * k = t % k := fun q h => by subst h; rw [Nat.mod_eq_sub_div_mul]
  by_cases a : t / k = i
  · rw [if_pos ((blk_iff k i t k0).2 a), m i a, a, getElem!_set_same d i y hi]
  · rw [if_neg (fun h => a ((blk_iff k i t k0).1 h)), getElem!_set_other d i (t / k) y a]
variable {enc : α → List Value} {k : Nat} {w0 W : World} {blk off : Nat} {dk d0 : Array α}
theorem SWK.put (h : SWK enc k w0 blk off dk W) (R : RowK enc k w0 blk off d0) (i : Nat) (hi : i < dk.size) (y : α) :
    SWK enc k w0 blk off (dk.setIfInBounds i y) (W.setCells blk (off + i * k) (enc y)) := by
  obtain ⟨n, os, rfl⟩ := h
  refine ⟨n, os, ?_⟩
  unfold sortWorldK
  rw [setCells_grow os blk _ _ _ (by show blk < (putRowK enc k _ blk off dk).heap.size; rw [size_putRowK]; exact R.hblk)]
  congr 1
  unfold putRowK
  rw [setCells_putRow _ _ _ _ _ _ (by rw [R.hk, size_flatK]; exact rowK_bnd dk k i hi), setMany_put enc k R.hk dk i hi]
theorem SWK.below {B : Nat} (h : SWK enc k w0 blk off dk W) (hB : B ≤ blk) (hblk : blk < w0.heap.size) : Below B w0 W := by
  obtain ⟨n, os, rfl⟩ := h
  refine ⟨rfl, rfl, rfl, ?_, fun j hj => ?_⟩
  · unfold sortWorldK; rw [_root_.Go.Sort.size_grow, size_putRowK]; exact Nat.le_add_right _ _
  · unfold sortWorldK
    rw [_root_.Go.Sort.heap_grow_old _ _ (by rw [size_putRowK]; show j < w0.heap.size; omega)]
    simp only [putRowK, putRow, mapBlock, Array.getElem?_modify]
    rw [if_neg (by omega)]; rfl
variable [DecidableEq α]
end St
end Go.Proofs.Ytacchooggifnhaa
