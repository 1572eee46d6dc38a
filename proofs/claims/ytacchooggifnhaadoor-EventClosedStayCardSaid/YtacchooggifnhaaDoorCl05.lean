/- Plain: the subjects of an experiment, and the keys that are mixed. No program stands in it. 'for k, v := range m' over a map of the call's own, as a list of pairs. No program stands in it. Maps keyed by texts: to events, to bools; other blocks while they turn. Plain: exchanging, rotating and merging parts of an array. -/
import Derived.Test.YtacchooggifnhaaDoorCl01
import Derived.Test.YtacchooggifnhaaDoorCl04
import Derived.Test.YtacchooggifnhaaDoorCl00
import Derived.Maps.RangeWalk
import Derived.Test.YtacchooggifnhaaDoorCl03
import Derived.Sort.LotA
import Derived.Sort.Lot0
namespace Go.Proofs.YtacchooggifnhaaDoor
namespace Ex
/-- a subject -/
structure Sbj where
  key : ByteArray
  time : Int
  arm : Int
  count : Int
  sum : Int
  early : Int
  earlySum : Int
  closed : Bool
abbrev sbC (s : Sbj) : Array Value := #[.string s.key, .int .i64 s.time, .int .i64 s.arm, .int .i64 s.count, .int .i64 s.sum, .int .i64 s.early, .int .i64 s.earlySum, .bool s.closed]
def sbL (s : Sbj) : List Value := (sbC s).toList
theorem sbL_len (s : Sbj) : (sbL s).length = 8 := rfl
theorem sbL_one (s : Sbj) : ∀ v ∈ sbL s, v.oneCell' = true := by
  intro v hv
  simp only [sbL, List.mem_cons, List.not_mem_nil, or_false] at hv
  rcases hv with rfl | rfl | rfl | rfl | rfl | rfl | rfl | rfl <;> rfl
abbrev Fst := List (ByteArray × Ev)
abbrev Mix := List (ByteArray × Bool)
/-- an exposure of the experiment x -/
def isExp (x : ByteArray) (e : Ev) : Bool := decide (e.kind = 1) && decide (e.name = x)
/-- one event more -/
def stepX (x : ByteArray) (st : Fst × Mix) (e : Ev) : Fst × Mix :=
  if isExp x e then
    match look st.1 e.key with
    | none => (putL st.1 e.key e, st.2)
    | some o => (if e.time < o.time then putL st.1 e.key e else st.1, if o.arm ≠ e.arm then putL st.2 e.key true else st.2)
  else st
def expX (x : ByteArray) (l : List Ev) : Fst × Mix := l.foldl (stepX x) ([], [])
theorem expX_take {x : ByteArray} {l : List Ev} {k : Nat} {e : Ev} (h : l[k]? = some e) : expX x (l.take (k + 1)) = stepX x (expX x (l.take k)) e := by
  obtain ⟨hk, rfl⟩ := List.getElem?_eq_some_iff.1 h
  unfold expX
  rw [List.take_succ_eq_append_getElem hk, List.foldl_append]
  rfl
def keysOf (F : Fst) : List ByteArray := F.map (·.1)
theorem look_some_mem {α β : Type} [DecidableEq α] : ∀ {l : List (α × β)} {x : α} {y : β}, look l x = some y → (x, y) ∈ l
  | [], x, y, h => by simp [look] at h
  | p :: l, x, y, h => by
    by_cases hx : x = p.1
    · have : look (p :: l) x = some p.2 := by simp [look, hx]
      rw [this] at h
      injection h with h
      subst hx; subst h
      exact List.mem_cons_self
    · have : look (p :: l) x = look l x := by simp [look, hx]
      rw [this] at h
      exact List.mem_cons_of_mem _ (look_some_mem h)
theorem look_mem {α β : Type} [DecidableEq α] : ∀ {l : List (α × β)}, (l.map (·.1)).Nodup → ∀ {p : α × β}, p ∈ l → look l p.1 = some p.2
  | [], _, p, h => by cases h
  | q :: l, hn, p, h => by
    rw [List.map_cons, List.nodup_cons] at hn
    rcases List.mem_cons.1 h with rfl | h
    · simp [look]
    · have hne : ¬ p.1 = q.1 := fun e => hn.1 (by rw [← e]; exact List.mem_map.2 ⟨p, h, rfl⟩)
      have : look (q :: l) p.1 = look l p.1 := by simp [look, hne]
      rw [this]; exact look_mem hn.2 h
theorem putL_keys {α β : Type} [DecidableEq α] : ∀ (l : List (α × β)) (x : α) (y : β), (putL l x y).map (·.1) = if x ∈ l.map (·.1) then l.map (·.1) else l.map (·.1) ++ [x]
  | [], x, y => by simp [putL]
  | p :: l, x, y => by
    unfold putL
    by_cases hx : x = p.1
    · rw [if_pos hx]; simp [hx]
    · rw [if_neg hx, List.map_cons, putL_keys l x y]
      by_cases hm : x ∈ l.map (·.1)
      · rw [if_pos hm, if_pos (by simp [hm])]; rfl
      · rw [if_neg hm, if_neg (by simp [hx]; simpa using hm)]; rfl
theorem putL_nodup {α β : Type} [DecidableEq α] {l : List (α × β)} (h : (l.map (·.1)).Nodup) (x : α) (y : β) : ((putL l x y).map (·.1)).Nodup := by
  rw [putL_keys]
  by_cases hm : x ∈ l.map (·.1)
  · rw [if_pos hm]; exact h
  · rw [if_neg hm, List.nodup_append]
    exact ⟨h, by simp, by
      intro a ha b hb
      rw [List.mem_singleton] at hb
      subst hb
      exact fun e => hm (e ▸ ha)⟩
/-- what is kept of the first exposures -/
def FirstOk (x : ByteArray) (l : List Ev) (F : Fst) : Prop := (F.map (·.1)).Nodup ∧ ∀ p ∈ F, p.2.key = p.1 ∧ p.2 ∈ l ∧ isExp x p.2 = true
theorem putL_mem {α β : Type} [DecidableEq α] : ∀ {l : List (α × β)} {x : α} {y : β} {p : α × β}, p ∈ putL l x y → p = (x, y) ∨ p ∈ l
  | [], x, y, p, h => by simp [putL] at h; exact .inl h
  | q :: l, x, y, p, h => by
    unfold putL at h
    by_cases hx : x = q.1
    · rw [if_pos hx] at h
      rcases List.mem_cons.1 h with h | h
      · exact .inl h
      · exact .inr (List.mem_cons_of_mem _ h)
    · rw [if_neg hx] at h
      rcases List.mem_cons.1 h with h | h
      · exact .inr (h ▸ List.mem_cons_self)
      · rcases putL_mem h with h | h
        · exact .inl h
        · exact .inr (List.mem_cons_of_mem _ h)
theorem step_fst (x : ByteArray) (st : Fst × Mix) (e : Ev) : (stepX x st e).1 = st.1 ∨ ((stepX x st e).1 = putL st.1 e.key e ∧ isExp x e = true) := by
  unfold stepX
  by_cases h : isExp x e = true
  · rw [if_pos h]
    cases look st.1 e.key with
    | none => exact .inr ⟨rfl, h⟩
    | some o =>
      by_cases ht : e.time < o.time
      · exact .inr ⟨if_pos ht, h⟩
      · exact .inl (if_neg ht)
  · rw [if_neg h]; exact .inl rfl
theorem first_fold (x : ByteArray) : ∀ (l : List Ev) (S : List Ev) (st : Fst × Mix), FirstOk x S st.1 → (∀ e ∈ l, e ∈ S) → FirstOk x S (l.foldl (stepX x) st).1
  | [], _, _, h, _ => h
  | e :: l, S, st, h, hm => by
    refine first_fold x l S _ ?_ (fun z hz => hm z (List.mem_cons_of_mem _ hz))
    rcases step_fst x st e with h1 | ⟨h1, h2⟩
    · rw [h1]; exact h
    · rw [h1]
      refine ⟨putL_nodup h.1 _ _, fun p hp => ?_⟩
      rcases putL_mem hp with rfl | hp
      · exact ⟨rfl, hm e List.mem_cons_self, h2⟩
      · exact h.2 p hp
theorem first_ok (x : ByteArray) (l : List Ev) : FirstOk x l (expX x l).1 := first_fold x l l ([], []) ⟨by simp, fun p hp => by cases hp⟩ (fun _ h => h)
/-- is a key mixed? -/
def mixB (M : Mix) (k : ByteArray) : Bool := (look M k).getD false
def subjOf (p : ByteArray × Ev) : Sbj := ⟨p.1, p.2.time, p.2.arm, 0, 0, 0, 0, false⟩
def AscB (l : List ByteArray) : Prop := l.Pairwise (fun a b => cmpS a b < 0)
def AscK (l : List Sbj) : Prop := l.Pairwise (fun a b => cmpS a.key b.key < 0)
theorem cmpS_ltt {a b c : ByteArray} (h : cmpS a b < 0) (k : cmpS b c < 0) : cmpS a c < 0 := by
  have h1 := cmpS_trans (a := a) (b := b) (c := c) (by omega) (by omega)
  rcases cmpS_tri a c with h2 | h2 | h2
  · omega
  · have := cmpS_zero h2
    subst this
    have := cmpS_anti b a
    omega
  · omega
/-- ascending lists with the same elements are one -/
theorem asc_one {α : Type} {f : α → ByteArray} : ∀ {M M' : List α}, M.Pairwise (fun a b => cmpS (f a) (f b) < 0) → M'.Pairwise (fun a b => cmpS (f a) (f b) < 0) → (∀ x, x ∈ M ↔ x ∈ M') → M = M'
  | [], [], _, _, _ => rfl
  | [], y :: M', _, _, h => by have := (h y).2 (by simp); cases this
  | x :: M, [], _, _, h => by have := (h x).1 (by simp); cases this
  | x :: M, y :: M', h1, h2, h => by
    obtain ⟨a1, a2⟩ := List.pairwise_cons.1 h1
    obtain ⟨b1, b2⟩ := List.pairwise_cons.1 h2
    have hxy : x = y := by
      rcases List.mem_cons.1 ((h x).1 (by simp)) with e | e
      · exact e
      · rcases List.mem_cons.1 ((h y).2 (by simp)) with e' | e'
        · exact e'.symm
        · have := a1 y e'; have := b1 x e; have := cmpS_anti (f x) (f y); omega
    subst hxy
    congr 1
    refine asc_one a2 b2 fun z => ?_
    constructor
    · intro hz
      rcases List.mem_cons.1 ((h z).1 (List.mem_cons_of_mem _ hz)) with e | e
      · subst e; have := a1 z hz; have := cmpS_self (f z); omega
      · exact e
    · intro hz
      rcases List.mem_cons.1 ((h z).2 (List.mem_cons_of_mem _ hz)) with e | e
      · subst e; have := b1 z hz; have := cmpS_self (f z); omega
      · exact e
/-- what exposed answers -/
def ExpR (F : Fst) (M : Mix) (out : List Sbj) (keys : List ByteArray) : Prop :=
  AscK out ∧ (∀ s, s ∈ out ↔ ∃ p ∈ F, mixB M p.1 = false ∧ s = subjOf p) ∧ AscB keys ∧ ∀ k, k ∈ keys ↔ k ∈ keysOf F ∧ mixB M k = true
theorem ExpR.unique {F : Fst} {M : Mix} {o o' : List Sbj} {k k' : List ByteArray} (h : ExpR F M o k) (g : ExpR F M o' k') : o = o' ∧ k = k' :=
  ⟨asc_one (f := Sbj.key) h.1 g.1 (fun s => (h.2.1 s).trans (g.2.1 s).symm), asc_one (f := id) h.2.2.1 g.2.2.1 (fun s => (h.2.2.2 s).trans (g.2.2.2 s).symm)⟩
/-- sorted, and no two alike: ascending -/
theorem asc_of_sorted {α : Type} {f : α → ByteArray} {M L : List α} (hp : M.Perm L) (hs : M.Pairwise (fun a b => ¬ cmpS (f b) (f a) < 0)) (hn : (L.map f).Nodup) : M.Pairwise (fun a b => cmpS (f a) (f b) < 0) := by
  have hn2 : (M.map f).Nodup := (hp.map f).nodup_iff.2 hn
  have h2 : M.Pairwise (fun a b => f a ≠ f b) := List.pairwise_map.1 hn2
  refine (hs.and h2).imp ?_
  rintro a b ⟨h3, h4⟩
  rcases cmpS_tri (f a) (f b) with h5 | h5 | h5
  · omega
  · exact absurd (cmpS_zero h5) h4
  · have := cmpS_anti (f a) (f b); omega
theorem filter_keys_nodup {α β : Type} {F : List (α × β)} (h : (F.map (·.1)).Nodup) (q : α × β → Bool) : ((F.filter q).map (·.1)).Nodup := by
  have : ((F.filter q).map (·.1)).Sublist (F.map (·.1)) := List.filter_sublist.map _
  exact this.nodup h
theorem expR_of {F done : Fst} {M : Mix} {out : List Sbj} {keys : List ByteArray} (hF : (F.map (·.1)).Nodup) (hd : F.Perm done)
    (ho : out.Perm ((done.filter (fun p => !mixB M p.1)).map subjOf)) (hos : out.Pairwise (fun a b => ¬ cmpS b.key a.key < 0))
    (hk : keys.Perm ((done.filter (fun p => mixB M p.1)).map (·.1))) (hks : keys.Pairwise (fun a b => ¬ cmpS b a < 0)) : ExpR F M out keys := by
  have hdn : (done.map (·.1)).Nodup := (hd.map (·.1)).nodup_iff.1 hF
  have e1 : ((done.filter (fun p => !mixB M p.1)).map subjOf).map Sbj.key = (done.filter (fun p => !mixB M p.1)).map (·.1) := by rw [List.map_map]; rfl
  refine ⟨asc_of_sorted ho hos (by rw [e1]; exact filter_keys_nodup hdn _), fun s => ?_, asc_of_sorted (f := id) hk hks (by rw [List.map_id]; exact filter_keys_nodup hdn _), fun k => ?_⟩
  · rw [ho.mem_iff, List.mem_map]
    constructor
    · rintro ⟨p, hp, rfl⟩
      obtain ⟨h1, h2⟩ := List.mem_filter.1 hp
      exact ⟨p, hd.mem_iff.2 h1, by simpa using h2, rfl⟩
    · rintro ⟨p, h1, h2, rfl⟩
      exact ⟨p, List.mem_filter.2 ⟨hd.mem_iff.1 h1, by simp [h2]⟩, rfl⟩
  · rw [hk.mem_iff, List.mem_map]
    unfold keysOf
    rw [List.mem_map]
    constructor
    · rintro ⟨p, hp, rfl⟩
      obtain ⟨h1, h2⟩ := List.mem_filter.1 hp
      exact ⟨⟨p, hd.mem_iff.2 h1, rfl⟩, h2⟩
    · rintro ⟨⟨p, h1, rfl⟩, h2⟩
      exact ⟨p, List.mem_filter.2 ⟨hd.mem_iff.1 h1, h2⟩, rfl⟩
end Ex
end Go.Proofs.YtacchooggifnhaaDoor
namespace Go.Proofs.YtacchooggifnhaaDoor
open Go.RowKit Go.ChangeMaps Go.MapKept
variable {α β : Type}
/-- the loop under way: 'left' is what is still to come -/
def RangeIs (kv : α → Value) (vv : β → Value) (w : World) (b r : Nat) (l left : List (α × β)) : Prop :=
  ∃ (es : Array MapEntry) (clock since : Nat) (seen : Array Nat) (c0 : Nat), w.heap[b]? = some (.map es clock) ∧ es.toList.map (·.key) = l.map (fun p => kv p.1) ∧ es.toList.map (·.val) = l.map (fun p => vv p.2) ∧ (∀ e ∈ es.toList, e.born < clock) ∧ es.toList.Pairwise (fun a b => a.born ≠ b.born) ∧
    w.heap[r]? = some (.mapIter (some b) since seen c0) ∧ (∀ x ∈ es.toList, x.born < since) ∧ since ≤ c0 ∧ since ≤ clock ∧
    (leftOf es seen).toList.map (·.key) = left.map (fun p => kv p.1) ∧ (leftOf es seen).toList.map (·.val) = left.map (fun p => vv p.2)
theorem RangeIs.owns {kv : α → Value} {vv : β → Value} {w : World} {b r : Nat} {l left : List (α × β)} (h : RangeIs kv vv w b r l left) : MapIs kv vv w b l := by
  obtain ⟨es, clock, _, _, _, h1, h2, h3, h4, h5, _⟩ := h
  exact ⟨es, clock, h1, h2, h3, h4, h5⟩
theorem RangeIs.lt {kv : α → Value} {vv : β → Value} {w : World} {b r : Nat} {l left : List (α × β)} (h : RangeIs kv vv w b r l left) : r < w.heap.size := by
  obtain ⟨es, clock, _, _, _, _, _, _, _, _, h6, _⟩ := h
  exact (Array.getElem?_eq_some_iff.1 h6).1
theorem RangeIs.ne {kv : α → Value} {vv : β → Value} {w : World} {b r : Nat} {l left : List (α × β)} (h : RangeIs kv vv w b r l left) : r ≠ b := by
  obtain ⟨es, clock, _, _, _, h1, _, _, _, _, h6, _⟩ := h
  intro e; rw [e, h1] at h6; cases h6
theorem RangeIs.kept {kv : α → Value} {vv : β → Value} {w w' : World} {b r : Nat} {l left : List (α × β)} {row : Option Nat} (h : RangeIs kv vv w b r l left) (hg : w.grownBy w' row) (hb : row ≠ some b) (hr : row ≠ some r) : RangeIs kv vv w' b r l left := by
  have l1 := h.owns.lt
  have l2 := h.lt
  obtain ⟨es, clock, since, seen, c0, h1, h2, h3, h4, h5, h6, h7⟩ := h
  exact ⟨es, clock, since, seen, c0, (hg.block b l1 (fun e => hb e.symm)).trans h1, h2, h3, h4, h5, (hg.block r l2 (fun e => hr e.symm)).trans h6, h7⟩
theorem RangeIs.ext {kv : α → Value} {vv : β → Value} {w w' : World} {b r : Nat} {l left : List (α × β)} (h : RangeIs kv vv w b r l left) (hb : Below w.heap.size w w') : RangeIs kv vv w' b r l left := by
  have l1 := h.owns.lt
  have l2 := h.lt
  obtain ⟨es, clock, since, seen, c0, h1, h2, h3, h4, h5, h6, h7⟩ := h
  exact ⟨es, clock, since, seen, c0, (hb.block b l1).trans h1, h2, h3, h4, h5, (hb.block r l2).trans h6, h7⟩
theorem RangeIs.left_eq {kv : α → Value} {vv : β → Value} {w : World} {b r : Nat} {l left : List (α × β)} (h : RangeIs kv vv w b r l left) : w.rangeLeft b r = left.length := by
  obtain ⟨es, clock, since, seen, c0, h1, _, _, _, _, h6, _, _, _, h9, _⟩ := h
  simp only [World.rangeLeft, h1, h6]
  have := congrArg List.length h9
  simpa using this
theorem filter_erase : ∀ {L : List MapEntry} {i : Nat} {e : MapEntry}, L.Pairwise (fun a b => a.born ≠ b.born) → L[i]? = some e → L.filter (fun x => !(x.born == e.born)) = L.eraseIdx i
  | [], i, e, _, h => by simp at h
  | x :: L, 0, e, hp, h => by
    obtain rfl : x = e := by simpa using h
    obtain ⟨h1, _⟩ := List.pairwise_cons.1 hp
    rw [List.filter_cons_of_neg (by simp), List.eraseIdx_cons_zero, List.filter_eq_self]
    intro y hy
    have := h1 y hy
    simp; exact fun h => this h.symm
  | x :: L, i + 1, e, hp, h => by
    obtain ⟨h1, h2⟩ := List.pairwise_cons.1 hp
    have h' : L[i]? = some e := by simpa using h
    have hne := h1 e (List.mem_of_getElem? h')
    rw [List.filter_cons_of_pos (by simpa using hne), List.eraseIdx_cons_succ, filter_erase h2 h']
theorem map_erase {γ δ : Type} (f : γ → δ) : ∀ (L : List γ) (i : Nat), (L.eraseIdx i).map f = (L.map f).eraseIdx i
  | [], _ => by simp
  | x :: L, 0 => by simp
  | x :: L, i + 1 => by simp [map_erase f L i]
theorem erase_perm {γ : Type} : ∀ {L : List γ} {i : Nat} {x : γ}, L[i]? = some x → L.Perm (x :: L.eraseIdx i)
  | [], i, x, h => by simp at h
  | y :: L, 0, x, h => by
    obtain rfl : y = x := by simpa using h
    exact List.Perm.refl _
  | y :: L, i + 1, x, h => by
    have h' : L[i]? = some x := by simpa using h
    have := erase_perm h'
    rw [List.eraseIdx_cons_succ]
    exact (this.cons y).trans (List.Perm.swap x y _)
theorem left_list (es : Array MapEntry) (seen : Array Nat) : (leftOf es seen).toList = es.toList.filter (fun e => !seen.contains e.born) := by
  unfold leftOf; simp
theorem left_push (es : Array MapEntry) (seen : Array Nat) (b : Nat) : (leftOf es (seen.push b)).toList = (leftOf es seen).toList.filter (fun x => !(x.born == b)) := by
  rw [left_list, left_list, List.filter_filter]
  refine List.filter_congr fun x _ => ?_
  rw [contains_push]
  cases seen.contains x.born <;> cases (x.born == b) <;> rfl
/-- 'range m' -/
theorem wpList_range_a {P : Program} {w : World} {ops : Array Oper} {rest : List Oper} {o : Oper} {a : Act} {Q : Exit → Act → World → Prop} (hg : o.guard = none) (m : Operand) (t : TypeId) (hop : o.op = Op.range t m)
    {K E : TypeId} {kv : α → Value} {vv : β → Value} (ht : P.underlying t = some (.map K E)) {b : Nat} {l : List (α × β)} (hm : a.eval m = .map (some b)) (h : MapIs kv vv w b l)
    (hK : ∀ w', RangeIs kv vv w' b w.heap.size l l → Below w.heap.size w w' → wpList P ops Q rest (a.put o.dst (.pointer (some ⟨w.heap.size, 0, none⟩))) w') : wpList P ops Q (o :: rest) a w := by
  refine wpList_plain hg fun K' hK' => ?_
  have hlt := h.lt
  obtain ⟨es, clock, h1, h2, h3, h4, h5⟩ := h
  have hrun := run_range_map (P := P) w t K E b es clock ht h1
  have hb := ext_alloc w (.mapIter (some b) clock #[] clock)
  unfold Oper.wp
  simp only [execOp, hop, hm, Sem.run_bind, hrun, Result.andThen_ok, Sem.run_pure]
  refine hK' _ _ (hK _ ⟨es, clock, clock, #[], clock, (hb.block b hlt).trans h1, h2, h3, h4, h5, heap_alloc_new w _, h4, Nat.le_refl _, Nat.le_refl _, ?_, ?_⟩ hb)
  · rw [left_list, List.filter_eq_self.2 (fun _ _ => by simp)]; exact h2
  · rw [left_list, List.filter_eq_self.2 (fun _ _ => by simp)]; exact h3
/-- the step: nothing is left, or an entry has come -/
theorem wpList_next_a {P : Program} {w : World} {ops : Array Oper} {rest : List Oper} {o : Oper} {a : Act} {Q : Exit → Act → World → Prop} (hg : o.guard = none) (it : Operand) (hop : o.op = Op.next it false)
    {kv : α → Value} {vv : β → Value} {b r : Nat} {l left : List (α × β)} (hit : a.eval it = .pointer (some ⟨r, 0, none⟩)) (h : RangeIs kv vv w b r l left)
    (hDone : left = [] → wpList P ops Q rest (a.put o.dst (.tuple #[.bool false])) w)
    (hMore : ∀ (x : α) (y : β) (i : Nat) (w' : World), left[i]? = some (x, y) → RangeIs kv vv w' b r l (left.eraseIdx i) → w.grownBy w' (some r) → w'.heap.size = w.heap.size → (Instr.entry (.pointer (some ⟨r, 0, none⟩))).run P w' = .ok (.tuple #[kv x, vv y]) w' → wpList P ops Q rest (a.put o.dst (.tuple #[.bool true, kv x, vv y])) w') :
    wpList P ops Q (o :: rest) a w := by
  refine wpList_plain hg fun K' hK' => ?_
  have hne := h.ne
  obtain ⟨es, clock, since, seen, c0, h1, h2, h3, h4, h5, h6, h7, h8, h8', h9, h10⟩ := h
  unfold Oper.wp
  rcases run_next_at (P := P) w o.type r b since c0 seen es clock h6 h1 h7 h8 with ⟨h0, hrun⟩ | ⟨e, he, w1, hal, hrun⟩
  · have hl : left = [] := by
      have := congrArg List.length h9
      have h0' : (leftOf es seen).toList.length = 0 := by simpa using h0
      simp only [List.length_map] at this
      exact List.eq_nil_of_length_eq_zero (by omega)
    simp only [execOp, hop, hit, Sem.run_bind, hrun, Result.andThen_ok, Sem.run_pure]
    exact hK' _ _ (hDone hl)
  · have hr1 : w1.heap[r]? = some (.mapIter (some b) since seen c0) := by rcases hal with rfl | rfl <;> exact h6
    have hb1 : w1.heap[b]? = some (.map es clock) := by rcases hal with rfl | rfl <;> exact h1
    have hset := heap_set (o' := .mapIter (some b) since (seen.push e.born) clock) hr1
    have hb' : (setBlock w1 r (.mapIter (some b) since (seen.push e.born) clock)).heap[b]? = some (.map es clock) := (hset.2 b (fun e1 => hne e1.symm)).trans hb1
    obtain ⟨i, hi, hie⟩ := List.getElem_of_mem he
    have hie' : (leftOf es seen).toList[i]? = some e := by rw [List.getElem?_eq_getElem hi, hie]
    have hk := congrArg (fun q : List Value => q[i]?) h9
    have hv := congrArg (fun q : List Value => q[i]?) h10
    simp only [List.getElem?_map, hie', Option.map_some] at hk hv
    obtain ⟨⟨x, y⟩, hxy⟩ : ∃ p, left[i]? = some p := by
      cases hq : left[i]? with
      | none => rw [hq] at hk; cases hk
      | some p => exact ⟨p, rfl⟩
    rw [hxy] at hk hv
    have hk' : e.key = kv x := by simpa using hk
    have hv' : e.val = vv y := by simpa using hv
    have hem : e ∈ es.toList := by rw [left_list] at he; exact (List.mem_filter.1 he).1
    have hsub : (leftOf es seen).toList.Pairwise (fun a b => a.born ≠ b.born) := by rw [left_list]; exact h5.filter _
    have hen := run_entry_at (P := P) _ r b since seen es clock e hset.1 hb' hem (by
      show (es.toList.map (·.born)).Pairwise (· ≠ ·)
      rw [List.pairwise_map]; exact h5)
    rw [hk', hv'] at hen hrun
    simp only [execOp, hop, hit, Sem.run_bind, hrun, Result.andThen_ok, Sem.run_pure]
    refine hK' _ _ (hMore x y i _ hxy ⟨es, clock, since, seen.push e.born, clock, hb', h2, h3, h4, h5, hset.1, h7, h8', h8', ?_, ?_⟩ ?_ ?_ hen)
    · rw [left_push, filter_erase hsub hie', map_erase, h9, map_erase]
    · rw [left_push, filter_erase hsub hie', map_erase, h10, map_erase]
    · rcases hal with rfl | rfl <;> exact ⟨rfl, rfl, rfl, by simp [setBlock], fun i _ hi => hset.2 i (fun e1 => hi (by rw [e1]))⟩
    · rcases hal with rfl | rfl <;> simp [setBlock]
end Go.Proofs.YtacchooggifnhaaDoor
namespace Go.Proofs.YtacchooggifnhaaDoor
open Go.RowKit Go.ChangeMaps
namespace Ex
abbrev evV (e : Ev) : Value := .agg (evC e)
theorem str_same (x y : ByteArray) : (x == y) = decide (x = y) := by
  rw [beq_toListBytes, Bool.eq_iff_iff]
  simp only [beq_iff_eq, decide_eq_true_eq, ByteArray.toList_eq]
  exact ⟨bytes_ext, fun h => by rw [h]⟩
theorem str_ok : KeyOk Tryd.prog 9 Value.string := by
  refine KeyOk.now (kind := .string) Tryd.underlying9 (fun e x w => ?_) (fun x y => ?_) (fun x => ?_)
  · kernel_rfl
  · show some (x == y) = _
    rw [str_same]
  · show (x == x) = true
    rw [str_same]; simp
theorem zero_evt (w : World) : (zeroValue 43).run Tryd.prog w = .ok (.agg #[.string ⟨#[]⟩, .int .i64 0, .int .i64 0, .int .i64 0, .string ⟨#[]⟩, .string ⟨#[]⟩, .int .i64 0, .int .i64 0]) w := by kernel_rfl
theorem zero_bl (w : World) : (zeroValue 4).run Tryd.prog w = .ok (.bool false) w := by kernel_rfl
theorem turned_other {α β : Type} {kv : α → Value} {vv : β → Value} {w w' : World} {b b2 : Nat} {l : List (α × β)} (h : MapIs kv vv w b l) (ht : w.mapTurned w' b2) (hne : b ≠ b2) : MapIs kv vv w' b l := by
  obtain ⟨es, clock, h1, h2⟩ := h
  obtain ⟨es1, c1, es2, c2, k1, rfl⟩ := ht
  refine ⟨es, clock, ?_, h2⟩
  simp only [setBlock, Array.getElem?_setIfInBounds]
  rw [if_neg (fun e => hne e.symm)]; exact h1
theorem box_turned {w w' : World} {b m : Nat} {A : Array Value} (h : Box w b A) (ht : w.mapTurned w' m) : Box w' b A :=
  ⟨by rw [turned_size ht]; exact h.1, fun j => (turned_cell ht _).trans (h.2 j)⟩
/-- the eight cells of a block that is an event -/
theorem box_ev {w : World} {b : Nat} {e : Ev} (h : Box w b (evC e)) : w.cell? ⟨b, 0, none⟩ = some (.string e.shard) ∧ w.cell? ⟨b, 1, none⟩ = some (.int .i64 e.number) ∧ w.cell? ⟨b, 2, none⟩ = some (.int .i64 e.kind) ∧ w.cell? ⟨b, 3, none⟩ = some (.int .i64 e.time) ∧
      w.cell? ⟨b, 4, none⟩ = some (.string e.key) ∧ w.cell? ⟨b, 5, none⟩ = some (.string e.name) ∧ w.cell? ⟨b, 6, none⟩ = some (.int .i64 e.arm) ∧ w.cell? ⟨b, 7, none⟩ = some (.int .i64 e.n) :=
  ⟨h.2 0, h.2 1, h.2 2, h.2 3, h.2 4, h.2 5, h.2 6, h.2 7⟩
theorem wp_mapNew {α β : Type} (kv : α → Value) (vv : β → Value) {P : Program} {c : Code} {Q : Exit → Act → World → Prop} {a : Act} {w : World}
    (h : ∀ W, Below w.heap.size w W → MapIs kv vv W w.heap.size [] → c.wp P Q a W) : c.wp P Q a (w.alloc (.map #[] 0)) :=
  h _ (ext_alloc _ _) (MapIs.made kv vv w)
theorem isExp_kind {x : ByteArray} {e : Ev} (h : e.kind ≠ 1) : isExp x e = false := by unfold isExp; rw [decide_eq_false h]; rfl
theorem isExp_name {x : ByteArray} {e : Ev} (h : e.name ≠ x) : isExp x e = false := by unfold isExp; rw [decide_eq_false h]; simp
theorem isExp_yes {x : ByteArray} {e : Ev} (h : e.kind = 1) (k : e.name = x) : isExp x e = true := by unfold isExp; rw [decide_eq_true h, decide_eq_true k]; rfl
theorem step_no {x : ByteArray} {st : Fst × Mix} {e : Ev} (h : isExp x e = false) : stepX x st e = st := by unfold stepX; rw [if_neg (by rw [h]; decide)]
theorem step_new {x : ByteArray} {F : Fst} {M : Mix} {e : Ev} (h : isExp x e = true) (k : look F e.key = none) : stepX x (F, M) e = (putL F e.key e, M) := by unfold stepX; rw [if_pos h]; simp only [k]
theorem step_old {x : ByteArray} {F : Fst} {M : Mix} {e o : Ev} (h : isExp x e = true) (k : look F e.key = some o) : stepX x (F, M) e = (if e.time < o.time then putL F e.key e else F, if o.arm ≠ e.arm then putL M e.key true else M) := by unfold stepX; rw [if_pos h]; simp only [k]
end Ex
end Go.Proofs.YtacchooggifnhaaDoor
namespace Go.Proofs.YtacchooggifnhaaDoor
namespace St
open Go.Sort
variable {α : Type} [Inhabited α]
/-- n places from a on, exchanged with those from b on -/
def rangeSwap (d : Array α) (a b : Nat) : Nat → Array α
  | 0 => d
  | k + 1 => swp (rangeSwap d a b k) (a + k) (b + k)
theorem rangeSwap_size (d : Array α) (a b n : Nat) : (rangeSwap d a b n).size = d.size := by
  induction n with
  | zero => rfl
  | succ k ih => rw [rangeSwap, size_swp, ih]
theorem rangeSwap_get (d : Array α) {a b n : Nat} (hab : a + n ≤ b) (hb : b + n ≤ d.size) : ∀ k, k ≤ n → ∀ x, (rangeSwap d a b k)[x]! = if a ≤ x ∧ x < a + k then d[x - a + b]! else if b ≤ x ∧ x < b + k then d[x - b + a]! else d[x]!
  | 0, _, x => by
    rw [if_neg (by omega), if_neg (by omega)]; rfl
  | k + 1, hk, x => by
    have ih := rangeSwap_get d hab hb k (by omega)
    have hs := rangeSwap_size d a b k
    rw [rangeSwap]
    by_cases h1 : x = a + k
    · subst h1
      rw [swp_left _ _ _ (by omega) (by omega), ih, if_neg (by omega), if_neg (by omega), if_pos (by omega)]
      congr 1; omega
    · by_cases h2 : x = b + k
      · subst h2
        rw [swp_right _ _ _ (by omega), ih, if_neg (by omega), if_neg (by omega), if_neg (by omega), if_pos (by omega)]
        congr 1; omega
      · rw [swp_other _ _ _ _ h1 h2, ih]
        (repeat' split) <;> first | rfl | omega | (congr 1; omega)
theorem rangeSwap_perm (d : Array α) {a b n lo hi : Nat} (hlo : lo ≤ a) (hlb : lo ≤ b) (ha : a + n ≤ hi) (hhi : b + n ≤ hi) (hs : hi ≤ d.size) : ∀ k, k ≤ n → PermIn lo hi d (rangeSwap d a b k)
  | 0, _ => permIn_refl _ _ _
  | k + 1, hk => permIn_trans _ _ _ _ _ (rangeSwap_perm d hlo hlb ha hhi hs k (by omega)) (swp_permIn _ _ _ _ _ (by omega) (by omega) (by omega) (by omega) (by rw [rangeSwap_size]; exact hs))
/-- The places of [m - i, m + j), the later ones first. -/
def Rot (m i j : Nat) (d d' : Array α) : Prop := PermIn (m - i) (m + j) d d' ∧ ∀ x, d'[x]! = if m - i ≤ x ∧ x < m - i + j then d[x + i]! else if m - i + j ≤ x ∧ x < m + j then d[x - j]! else d[x]!
theorem rot_eq (d : Array α) {m i : Nat} (hi : i ≤ m) (hm : m + i ≤ d.size) : Rot m i i d (rangeSwap d (m - i) m i) := by
  refine ⟨rangeSwap_perm d (Nat.le_refl _) (by omega) (by omega) (by omega) hm i (Nat.le_refl _), fun x => ?_⟩
  rw [rangeSwap_get d (by omega) (by omega) i (Nat.le_refl _)]
  (repeat' split) <;> first | rfl | omega | (congr 1; omega)
theorem rot_more (d d' : Array α) {m i j : Nat} (hi : i ≤ m) (hji : j < i) (hm : m + j ≤ d.size) (h : Rot m (i - j) j (rangeSwap d (m - i) m j) d') : Rot m i j d d' := by
  obtain ⟨h1, h2⟩ := h
  have hp := rangeSwap_perm d (a := m - i) (b := m) (n := j) (lo := m - i) (hi := m + j) (Nat.le_refl _) (by omega) (by omega) (Nat.le_refl _) hm j (Nat.le_refl _)
  refine ⟨permIn_trans _ _ _ _ _ hp (permIn_mono _ _ _ _ _ _ (by omega) (Nat.le_refl _) (by rw [rangeSwap_size]; exact hm) h1), fun x => ?_⟩
  have g := rangeSwap_get d (a := m - i) (b := m) (n := j) (by omega) hm j (Nat.le_refl _)
  rw [h2, g, g, g]
  (repeat' split) <;> first | rfl | omega | (congr 1; omega)
theorem rot_less (d d' : Array α) {m i j : Nat} (hi : i ≤ m) (h0 : 0 < i) (hij : i < j) (hm : m + j ≤ d.size) (h : Rot m i (j - i) (rangeSwap d (m - i) (m + j - i) i) d') : Rot m i j d d' := by
  obtain ⟨h1, h2⟩ := h
  have hp := rangeSwap_perm d (a := m - i) (b := m + j - i) (n := i) (lo := m - i) (hi := m + j) (Nat.le_refl _) (by omega) (by omega) (by omega) hm i (Nat.le_refl _)
  refine ⟨permIn_trans _ _ _ _ _ hp (permIn_mono _ _ _ _ _ _ (Nat.le_refl _) (by omega) (by rw [rangeSwap_size]; exact hm) h1), fun x => ?_⟩
  have g := rangeSwap_get d (a := m - i) (b := m + j - i) (n := i) (by omega) (by omega) i (Nat.le_refl _)
  rw [h2, g, g, g]
  (repeat' split) <;> first | rfl | omega | (congr 1; omega)
end St
end Go.Proofs.YtacchooggifnhaaDoor
