/- Plain: the subjects of an experiment, and the keys that are mixed. No program stands in it. 'for k, v := range m' over a map of the call's own, as a list of pairs. No program stands in it. The order of events in the form that the sort asks: the world grown alone. '==' and '!=' on events. Maps keyed by texts: to events, to bools; other blocks while they turn. Plain: the merge by symmetric comparisons sorts. slices.Compact at structs of k cells. -/
import Derived.Test.YtacchooggifnhaaTw02
import Derived.Test.YtacchooggifnhaaTw04
import Derived.Test.YtacchooggifnhaaTw01
import Derived.Test.YtacchooggifnhaaTw00
import Derived.Maps.RangeWalk
import Derived.Shelf.SlSortCmp.KitK
import Derived.Laws.StructEq
import Derived.Sort.LotA
import Derived.Sort.Lot0
import Derived.Test.YtacchooggifnhaaProg
import Derived.Shelf.RegionOpenPlain
import Derived.Lib.SlicesCompact
import Derived.Sort.WalkB2
import Derived.Sort.WalkB12
import Derived.Deep.LoopGhost
namespace Go.Proofs.Ytacchooggifnhaa
namespace Ex
/-- a subject -/
structure Sbj where
  key : ByteArray
  time : Int
  arm : Int
  count : Int
  sum : Int
  early : Int
  earlySum : Int
  closed : Bool
abbrev sbC (s : Sbj) : Array Value := #[.string s.key, .int .i64 s.time, .int .i64 s.arm, .int .i64 s.count, .int .i64 s.sum, .int .i64 s.early, .int .i64 s.earlySum, .bool s.closed]
def sbL (s : Sbj) : List Value := (sbC s).toList
theorem sbL_len (s : Sbj) : (sbL s).length = 8 := rfl
theorem sbL_one (s : Sbj) : ∀ v ∈ sbL s, v.oneCell' = true := by
  intro v hv
  simp only [sbL, List.mem_cons, List.not_mem_nil, or_false] at hv
  rcases hv with rfl | rfl | rfl | rfl | rfl | rfl | rfl | rfl <;> rfl
abbrev Fst := List (ByteArray × Ev)
abbrev Mix := List (ByteArray × Bool)
/-- an exposure of the experiment x -/
def isExp (x : ByteArray) (e : Ev) : Bool := decide (e.kind = 1) && decide (e.name = x)
/-- one event more -/
def stepX (x : ByteArray) (st : Fst × Mix) (e : Ev) : Fst × Mix :=
  if isExp x e then
    match look st.1 e.key with
    | none => (putL st.1 e.key e, st.2)
    | some o => (if e.time < o.time then putL st.1 e.key e else st.1, if o.arm ≠ e.arm then putL st.2 e.key true else st.2)
  else st
def expX (x : ByteArray) (l : List Ev) : Fst × Mix := l.foldl (stepX x) ([], [])
theorem expX_take {x : ByteArray} {l : List Ev} {k : Nat} {e : Ev} (h : l[k]? = some e) : expX x (l.take (k + 1)) = stepX x (expX x (l.take k)) e := by
  obtain ⟨hk, rfl⟩ := List.getElem?_eq_some_iff.1 h
  unfold expX
  rw [List.take_succ_eq_append_getElem hk, List.foldl_append]
  rfl
def keysOf (F : Fst) : List ByteArray := F.map (·.1)
theorem look_some_mem {α β : Type} [DecidableEq α] : ∀ {l : List (α × β)} {x : α} {y : β}, look l x = some y → (x, y) ∈ l
  | [], x, y, h => by simp [look] at h
  | p :: l, x, y, h => by
    by_cases hx : x = p.1
    · have : look (p :: l) x = some p.2 := by simp [look, hx]
      rw [this] at h
      injection h with h
      subst hx; subst h
      exact List.mem_cons_self
    · have : look (p :: l) x = look l x := by simp [look, hx]
      rw [this] at h
      exact List.mem_cons_of_mem _ (look_some_mem h)
theorem look_none_keys {α β : Type} [DecidableEq α] : ∀ {l : List (α × β)} {x : α}, look l x = none ↔ x ∉ l.map (·.1)
  | [], x => by simp [look]
  | p :: l, x => by
    by_cases hx : x = p.1
    · have : look (p :: l) x = some p.2 := by simp [look, hx]
      rw [this]
      simp [hx]
    · have : look (p :: l) x = look l x := by simp [look, hx]
      rw [this, look_none_keys (l := l)]
      simp [hx]
theorem look_mem {α β : Type} [DecidableEq α] : ∀ {l : List (α × β)}, (l.map (·.1)).Nodup → ∀ {p : α × β}, p ∈ l → look l p.1 = some p.2
  | [], _, p, h => by cases h
  | q :: l, hn, p, h => by
    rw [List.map_cons, List.nodup_cons] at hn
    rcases List.mem_cons.1 h with rfl | h
    · simp [look]
    · have hne : ¬ p.1 = q.1 := fun e => hn.1 (by rw [← e]; exact List.mem_map.2 ⟨p, h, rfl⟩)
      have : look (q :: l) p.1 = look l p.1 := by simp [look, hne]
      rw [this]; exact look_mem hn.2 h
theorem putL_keys {α β : Type} [DecidableEq α] : ∀ (l : List (α × β)) (x : α) (y : β), (putL l x y).map (·.1) = if x ∈ l.map (·.1) then l.map (·.1) else l.map (·.1) ++ [x]
  | [], x, y => by simp [putL]
  | p :: l, x, y => by
    unfold putL
    by_cases hx : x = p.1
    · rw [if_pos hx]; simp [hx]
    · rw [if_neg hx, List.map_cons, putL_keys l x y]
      by_cases hm : x ∈ l.map (·.1)
      · rw [if_pos hm, if_pos (by simp [hm])]; rfl
      · rw [if_neg hm, if_neg (by simp [hx]; simpa using hm)]; rfl
theorem putL_nodup {α β : Type} [DecidableEq α] {l : List (α × β)} (h : (l.map (·.1)).Nodup) (x : α) (y : β) : ((putL l x y).map (·.1)).Nodup := by
  rw [putL_keys]
  by_cases hm : x ∈ l.map (·.1)
  · rw [if_pos hm]; exact h
  · rw [if_neg hm, List.nodup_append]
    exact ⟨h, by simp, by
      intro a ha b hb
      rw [List.mem_singleton] at hb
      subst hb
      exact fun e => hm (e ▸ ha)⟩
/-- what is kept of the first exposures -/
def FirstOk (x : ByteArray) (l : List Ev) (F : Fst) : Prop := (F.map (·.1)).Nodup ∧ ∀ p ∈ F, p.2.key = p.1 ∧ p.2 ∈ l ∧ isExp x p.2 = true
theorem putL_mem {α β : Type} [DecidableEq α] : ∀ {l : List (α × β)} {x : α} {y : β} {p : α × β}, p ∈ putL l x y → p = (x, y) ∨ p ∈ l
  | [], x, y, p, h => by simp [putL] at h; exact .inl h
  | q :: l, x, y, p, h => by
    unfold putL at h
    by_cases hx : x = q.1
    · rw [if_pos hx] at h
      rcases List.mem_cons.1 h with h | h
      · exact .inl h
      · exact .inr (List.mem_cons_of_mem _ h)
    · rw [if_neg hx] at h
      rcases List.mem_cons.1 h with h | h
      · exact .inr (h ▸ List.mem_cons_self)
      · rcases putL_mem h with h | h
        · exact .inl h
        · exact .inr (List.mem_cons_of_mem _ h)
theorem step_fst (x : ByteArray) (st : Fst × Mix) (e : Ev) : (stepX x st e).1 = st.1 ∨ ((stepX x st e).1 = putL st.1 e.key e ∧ isExp x e = true) := by
  unfold stepX
  by_cases h : isExp x e = true
  · rw [if_pos h]
    cases look st.1 e.key with
    | none => exact .inr ⟨rfl, h⟩
    | some o =>
      by_cases ht : e.time < o.time
      · exact .inr ⟨if_pos ht, h⟩
      · exact .inl (if_neg ht)
  · rw [if_neg h]; exact .inl rfl
theorem first_fold (x : ByteArray) : ∀ (l : List Ev) (S : List Ev) (st : Fst × Mix), FirstOk x S st.1 → (∀ e ∈ l, e ∈ S) → FirstOk x S (l.foldl (stepX x) st).1
  | [], _, _, h, _ => h
  | e :: l, S, st, h, hm => by
    refine first_fold x l S _ ?_ (fun z hz => hm z (List.mem_cons_of_mem _ hz))
    rcases step_fst x st e with h1 | ⟨h1, h2⟩
    · rw [h1]; exact h
    · rw [h1]
      refine ⟨putL_nodup h.1 _ _, fun p hp => ?_⟩
      rcases putL_mem hp with rfl | hp
      · exact ⟨rfl, hm e List.mem_cons_self, h2⟩
      · exact h.2 p hp
theorem first_ok (x : ByteArray) (l : List Ev) : FirstOk x l (expX x l).1 := first_fold x l l ([], []) ⟨by simp, fun p hp => by cases hp⟩ (fun _ h => h)
/-- is a key mixed? -/
def mixB (M : Mix) (k : ByteArray) : Bool := (look M k).getD false
def subjOf (p : ByteArray × Ev) : Sbj := ⟨p.1, p.2.time, p.2.arm, 0, 0, 0, 0, false⟩
def AscB (l : List ByteArray) : Prop := l.Pairwise (fun a b => cmpS a b < 0)
def AscK (l : List Sbj) : Prop := l.Pairwise (fun a b => cmpS a.key b.key < 0)
theorem cmpS_ltt {a b c : ByteArray} (h : cmpS a b < 0) (k : cmpS b c < 0) : cmpS a c < 0 := by
  have h1 := cmpS_trans (a := a) (b := b) (c := c) (by omega) (by omega)
  rcases cmpS_tri a c with h2 | h2 | h2
  · omega
  · have := cmpS_zero h2
    subst this
    have := cmpS_anti b a
    omega
  · omega
/-- ascending lists with the same elements are one -/
theorem asc_one {α : Type} {f : α → ByteArray} : ∀ {M M' : List α}, M.Pairwise (fun a b => cmpS (f a) (f b) < 0) → M'.Pairwise (fun a b => cmpS (f a) (f b) < 0) → (∀ x, x ∈ M ↔ x ∈ M') → M = M'
  | [], [], _, _, _ => rfl
  | [], y :: M', _, _, h => by have := (h y).2 (by simp); cases this
  | x :: M, [], _, _, h => by have := (h x).1 (by simp); cases this
  | x :: M, y :: M', h1, h2, h => by
    obtain ⟨a1, a2⟩ := List.pairwise_cons.1 h1
    obtain ⟨b1, b2⟩ := List.pairwise_cons.1 h2
    have hxy : x = y := by
      rcases List.mem_cons.1 ((h x).1 (by simp)) with e | e
      · exact e
      · rcases List.mem_cons.1 ((h y).2 (by simp)) with e' | e'
        · exact e'.symm
        · have := a1 y e'; have := b1 x e; have := cmpS_anti (f x) (f y); omega
    subst hxy
    congr 1
    refine asc_one a2 b2 fun z => ?_
    constructor
    · intro hz
      rcases List.mem_cons.1 ((h z).1 (List.mem_cons_of_mem _ hz)) with e | e
      · subst e; have := a1 z hz; have := cmpS_self (f z); omega
      · exact e
    · intro hz
      rcases List.mem_cons.1 ((h z).2 (List.mem_cons_of_mem _ hz)) with e | e
      · subst e; have := b1 z hz; have := cmpS_self (f z); omega
      · exact e
/-- what exposed answers -/
def ExpR (F : Fst) (M : Mix) (out : List Sbj) (keys : List ByteArray) : Prop :=
  AscK out ∧ (∀ s, s ∈ out ↔ ∃ p ∈ F, mixB M p.1 = false ∧ s = subjOf p) ∧ AscB keys ∧ ∀ k, k ∈ keys ↔ k ∈ keysOf F ∧ mixB M k = true
theorem ExpR.unique {F : Fst} {M : Mix} {o o' : List Sbj} {k k' : List ByteArray} (h : ExpR F M o k) (g : ExpR F M o' k') : o = o' ∧ k = k' :=
  ⟨asc_one (f := Sbj.key) h.1 g.1 (fun s => (h.2.1 s).trans (g.2.1 s).symm), asc_one (f := id) h.2.2.1 g.2.2.1 (fun s => (h.2.2.2 s).trans (g.2.2.2 s).symm)⟩
/-- sorted, and no two alike: ascending -/
theorem asc_of_sorted {α : Type} {f : α → ByteArray} {M L : List α} (hp : M.Perm L) (hs : M.Pairwise (fun a b => ¬ cmpS (f b) (f a) < 0)) (hn : (L.map f).Nodup) : M.Pairwise (fun a b => cmpS (f a) (f b) < 0) := by
  have hn2 : (M.map f).Nodup := (hp.map f).nodup_iff.2 hn
  have h2 : M.Pairwise (fun a b => f a ≠ f b) := List.pairwise_map.1 hn2
  refine (hs.and h2).imp ?_
  rintro a b ⟨h3, h4⟩
  rcases cmpS_tri (f a) (f b) with h5 | h5 | h5
  · omega
  · exact absurd (cmpS_zero h5) h4
  · have := cmpS_anti (f a) (f b); omega
theorem filter_keys_nodup {α β : Type} {F : List (α × β)} (h : (F.map (·.1)).Nodup) (q : α × β → Bool) : ((F.filter q).map (·.1)).Nodup := by
  have : ((F.filter q).map (·.1)).Sublist (F.map (·.1)) := List.filter_sublist.map _
  exact this.nodup h
theorem expR_of {F done : Fst} {M : Mix} {out : List Sbj} {keys : List ByteArray} (hF : (F.map (·.1)).Nodup) (hd : F.Perm done)
    (ho : out.Perm ((done.filter (fun p => !mixB M p.1)).map subjOf)) (hos : out.Pairwise (fun a b => ¬ cmpS b.key a.key < 0))
    (hk : keys.Perm ((done.filter (fun p => mixB M p.1)).map (·.1))) (hks : keys.Pairwise (fun a b => ¬ cmpS b a < 0)) : ExpR F M out keys := by
  have hdn : (done.map (·.1)).Nodup := (hd.map (·.1)).nodup_iff.1 hF
  have e1 : ((done.filter (fun p => !mixB M p.1)).map subjOf).map Sbj.key = (done.filter (fun p => !mixB M p.1)).map (·.1) := by rw [List.map_map]; rfl
  refine ⟨asc_of_sorted ho hos (by rw [e1]; exact filter_keys_nodup hdn _), fun s => ?_, asc_of_sorted (f := id) hk hks (by rw [List.map_id]; exact filter_keys_nodup hdn _), fun k => ?_⟩
  · rw [ho.mem_iff, List.mem_map]
    constructor
    · rintro ⟨p, hp, rfl⟩
      obtain ⟨h1, h2⟩ := List.mem_filter.1 hp
      exact ⟨p, hd.mem_iff.2 h1, by simpa using h2, rfl⟩
    · rintro ⟨p, h1, h2, rfl⟩
      exact ⟨p, List.mem_filter.2 ⟨hd.mem_iff.1 h1, by simp [h2]⟩, rfl⟩
  · rw [hk.mem_iff, List.mem_map]
    unfold keysOf
    rw [List.mem_map]
    constructor
    · rintro ⟨p, hp, rfl⟩
      obtain ⟨h1, h2⟩ := List.mem_filter.1 hp
      exact ⟨⟨p, hd.mem_iff.2 h1, rfl⟩, h2⟩
    · rintro ⟨⟨p, h1, rfl⟩, h2⟩
      exact ⟨p, List.mem_filter.2 ⟨hd.mem_iff.1 h1, h2⟩, rfl⟩
/-- a key's first exposure -/
def firstOf (F : Fst) (k : ByteArray) : Ev := (look F k).getD ⟨⟨#[]⟩, 0, 0, 0, ⟨#[]⟩, ⟨#[]⟩, 0, 0⟩
def subjK (F : Fst) (k : ByteArray) : Sbj := subjOf (k, firstOf F k)
theorem expR_ref {F : Fst} {M : Mix} {ks : List ByteArray} (hF : (F.map (·.1)).Nodup) (hp : ks.Perm (keysOf F)) (hs : ks.Pairwise (fun a b => ¬ cmpS b a < 0)) :
    ExpR F M ((ks.filter (fun k => !mixB M k)).map (subjK F)) (ks.filter (fun k => mixB M k)) := by
  have ha : AscB ks := asc_of_sorted (f := id) hp hs (by rw [List.map_id]; exact hF)
  refine ⟨?_, fun s => ?_, ha.filter _, fun k => ?_⟩
  · unfold AscK
    rw [List.pairwise_map]
    exact (ha.filter _).imp (fun h => h)
  · rw [List.mem_map]
    constructor
    · rintro ⟨k, hk, rfl⟩
      obtain ⟨h1, h2⟩ := List.mem_filter.1 hk
      obtain ⟨p, h3, rfl⟩ := List.mem_map.1 (hp.mem_iff.1 h1)
      refine ⟨p, h3, by simpa using h2, ?_⟩
      unfold subjK firstOf
      rw [look_mem hF h3]; rfl
    · rintro ⟨p, h1, h2, rfl⟩
      refine ⟨p.1, List.mem_filter.2 ⟨hp.mem_iff.2 (List.mem_map.2 ⟨p, h1, rfl⟩), by simp [h2]⟩, ?_⟩
      unfold subjK firstOf
      rw [look_mem hF h1]; rfl
  · rw [List.mem_filter, hp.mem_iff]
end Ex
end Go.Proofs.Ytacchooggifnhaa
namespace Go.Proofs.Ytacchooggifnhaa
open Go.RowKit Go.ChangeMaps Go.MapKept
variable {α β : Type}
/-- the loop under way: 'left' is what is still to come -/
def RangeIs (kv : α → Value) (vv : β → Value) (w : World) (b r : Nat) (l left : List (α × β)) : Prop :=
  ∃ (es : Array MapEntry) (clock since : Nat) (seen : Array Nat) (c0 : Nat), w.heap[b]? = some (.map es clock) ∧ es.toList.map (·.key) = l.map (fun p => kv p.1) ∧ es.toList.map (·.val) = l.map (fun p => vv p.2) ∧ (∀ e ∈ es.toList, e.born < clock) ∧ es.toList.Pairwise (fun a b => a.born ≠ b.born) ∧
    w.heap[r]? = some (.mapIter (some b) since seen c0) ∧ (∀ x ∈ es.toList, x.born < since) ∧ since ≤ c0 ∧ since ≤ clock ∧
    (leftOf es seen).toList.map (·.key) = left.map (fun p => kv p.1) ∧ (leftOf es seen).toList.map (·.val) = left.map (fun p => vv p.2)
theorem RangeIs.owns {kv : α → Value} {vv : β → Value} {w : World} {b r : Nat} {l left : List (α × β)} (h : RangeIs kv vv w b r l left) : MapIs kv vv w b l := by
  obtain ⟨es, clock, _, _, _, h1, h2, h3, h4, h5, _⟩ := h
  exact ⟨es, clock, h1, h2, h3, h4, h5⟩
theorem RangeIs.lt {kv : α → Value} {vv : β → Value} {w : World} {b r : Nat} {l left : List (α × β)} (h : RangeIs kv vv w b r l left) : r < w.heap.size := by
  obtain ⟨es, clock, _, _, _, _, _, _, _, _, h6, _⟩ := h
  exact (Array.getElem?_eq_some_iff.1 h6).1
theorem RangeIs.ne {kv : α → Value} {vv : β → Value} {w : World} {b r : Nat} {l left : List (α × β)} (h : RangeIs kv vv w b r l left) : r ≠ b := by
  obtain ⟨es, clock, _, _, _, h1, _, _, _, _, h6, _⟩ := h
  intro e; rw [e, h1] at h6; cases h6
theorem RangeIs.kept {kv : α → Value} {vv : β → Value} {w w' : World} {b r : Nat} {l left : List (α × β)} {row : Option Nat} (h : RangeIs kv vv w b r l left) (hg : w.grownBy w' row) (hb : row ≠ some b) (hr : row ≠ some r) : RangeIs kv vv w' b r l left := by
  have l1 := h.owns.lt
  have l2 := h.lt
  obtain ⟨es, clock, since, seen, c0, h1, h2, h3, h4, h5, h6, h7⟩ := h
  exact ⟨es, clock, since, seen, c0, (hg.block b l1 (fun e => hb e.symm)).trans h1, h2, h3, h4, h5, (hg.block r l2 (fun e => hr e.symm)).trans h6, h7⟩
theorem RangeIs.ext {kv : α → Value} {vv : β → Value} {w w' : World} {b r : Nat} {l left : List (α × β)} (h : RangeIs kv vv w b r l left) (hb : Below w.heap.size w w') : RangeIs kv vv w' b r l left := by
  have l1 := h.owns.lt
  have l2 := h.lt
  obtain ⟨es, clock, since, seen, c0, h1, h2, h3, h4, h5, h6, h7⟩ := h
  exact ⟨es, clock, since, seen, c0, (hb.block b l1).trans h1, h2, h3, h4, h5, (hb.block r l2).trans h6, h7⟩
theorem RangeIs.left_eq {kv : α → Value} {vv : β → Value} {w : World} {b r : Nat} {l left : List (α × β)} (h : RangeIs kv vv w b r l left) : w.rangeLeft b r = left.length := by
  obtain ⟨es, clock, since, seen, c0, h1, _, _, _, _, h6, _, _, _, h9, _⟩ := h
  simp only [World.rangeLeft, h1, h6]
  have := congrArg List.length h9
  simpa using this
theorem filter_erase : ∀ {L : List MapEntry} {i : Nat} {e : MapEntry}, L.Pairwise (fun a b => a.born ≠ b.born) → L[i]? = some e → L.filter (fun x => !(x.born == e.born)) = L.eraseIdx i
  | [], i, e, _, h => by simp at h
  | x :: L, 0, e, hp, h => by
    obtain rfl : x = e := by simpa using h
    obtain ⟨h1, _⟩ := List.pairwise_cons.1 hp
    rw [List.filter_cons_of_neg (by simp), List.eraseIdx_cons_zero, List.filter_eq_self]
    intro y hy
    have := h1 y hy
    simp; exact fun h => this h.symm
  | x :: L, i + 1, e, hp, h => by
    obtain ⟨h1, h2⟩ := List.pairwise_cons.1 hp
    have h' : L[i]? = some e := by simpa using h
    have hne := h1 e (List.mem_of_getElem? h')
    rw [List.filter_cons_of_pos (by simpa using hne), List.eraseIdx_cons_succ, filter_erase h2 h']
theorem map_erase {γ δ : Type} (f : γ → δ) : ∀ (L : List γ) (i : Nat), (L.eraseIdx i).map f = (L.map f).eraseIdx i
  | [], _ => by simp
  | x :: L, 0 => by simp
  | x :: L, i + 1 => by simp [map_erase f L i]
theorem erase_perm {γ : Type} : ∀ {L : List γ} {i : Nat} {x : γ}, L[i]? = some x → L.Perm (x :: L.eraseIdx i)
  | [], i, x, h => by simp at h
  | y :: L, 0, x, h => by
    obtain rfl : y = x := by simpa using h
    exact List.Perm.refl _
  | y :: L, i + 1, x, h => by
    have h' : L[i]? = some x := by simpa using h
    have := erase_perm h'
    rw [List.eraseIdx_cons_succ]
    exact (this.cons y).trans (List.Perm.swap x y _)
theorem left_list (es : Array MapEntry) (seen : Array Nat) : (leftOf es seen).toList = es.toList.filter (fun e => !seen.contains e.born) := by
  unfold leftOf; simp
theorem left_push (es : Array MapEntry) (seen : Array Nat) (b : Nat) : (leftOf es (seen.push b)).toList = (leftOf es seen).toList.filter (fun x => !(x.born == b)) := by
  rw [left_list, left_list, List.filter_filter]
  refine List.filter_congr fun x _ => ?_
  rw [contains_push]
  cases seen.contains x.born <;> cases (x.born == b) <;> rfl
/-- 'range m' -/
theorem wpList_range_a {P : Program} {w : World} {ops : Array Oper} {rest : List Oper} {o : Oper} {a : Act} {Q : Exit → Act → World → Prop} (hg : o.guard = none) (m : Operand) (t : TypeId) (hop : o.op = Op.range t m)
    {K E : TypeId} {kv : α → Value} {vv : β → Value} (ht : P.underlying t = some (.map K E)) {b : Nat} {l : List (α × β)} (hm : a.eval m = .map (some b)) (h : MapIs kv vv w b l)
    (hK : ∀ w', RangeIs kv vv w' b w.heap.size l l → Below w.heap.size w w' → wpList P ops Q rest (a.put o.dst (.pointer (some ⟨w.heap.size, 0, none⟩))) w') : wpList P ops Q (o :: rest) a w := by
  refine wpList_plain hg fun K' hK' => ?_
  have hlt := h.lt
  obtain ⟨es, clock, h1, h2, h3, h4, h5⟩ := h
  have hrun := run_range_map (P := P) w t K E b es clock ht h1
  have hb := ext_alloc w (.mapIter (some b) clock #[] clock)
  unfold Oper.wp
  simp only [execOp, hop, hm, Sem.run_bind, hrun, Result.andThen_ok, Sem.run_pure]
  refine hK' _ _ (hK _ ⟨es, clock, clock, #[], clock, (hb.block b hlt).trans h1, h2, h3, h4, h5, heap_alloc_new w _, h4, Nat.le_refl _, Nat.le_refl _, ?_, ?_⟩ hb)
  · rw [left_list, List.filter_eq_self.2 (fun _ _ => by simp)]; exact h2
  · rw [left_list, List.filter_eq_self.2 (fun _ _ => by simp)]; exact h3
/-- the step: nothing is left, or an entry has come -/
theorem wpList_next_a {P : Program} {w : World} {ops : Array Oper} {rest : List Oper} {o : Oper} {a : Act} {Q : Exit → Act → World → Prop} (hg : o.guard = none) (it : Operand) (hop : o.op = Op.next it false)
    {kv : α → Value} {vv : β → Value} {b r : Nat} {l left : List (α × β)} (hit : a.eval it = .pointer (some ⟨r, 0, none⟩)) (h : RangeIs kv vv w b r l left)
    (hDone : left = [] → wpList P ops Q rest (a.put o.dst (.tuple #[.bool false])) w)
    (hMore : ∀ (x : α) (y : β) (i : Nat) (w' : World), left[i]? = some (x, y) → RangeIs kv vv w' b r l (left.eraseIdx i) → w.grownBy w' (some r) → w'.heap.size = w.heap.size → (Instr.entry (.pointer (some ⟨r, 0, none⟩))).run P w' = .ok (.tuple #[kv x, vv y]) w' → wpList P ops Q rest (a.put o.dst (.tuple #[.bool true, kv x, vv y])) w') :
    wpList P ops Q (o :: rest) a w := by
  refine wpList_plain hg fun K' hK' => ?_
  have hne := h.ne
  obtain ⟨es, clock, since, seen, c0, h1, h2, h3, h4, h5, h6, h7, h8, h8', h9, h10⟩ := h
  unfold Oper.wp
  rcases run_next_at (P := P) w o.type r b since c0 seen es clock h6 h1 h7 h8 with ⟨h0, hrun⟩ | ⟨e, he, w1, hal, hrun⟩
  · have hl : left = [] := by
      have := congrArg List.length h9
      have h0' : (leftOf es seen).toList.length = 0 := by simpa using h0
      simp only [List.length_map] at this
      exact List.eq_nil_of_length_eq_zero (by omega)
    simp only [execOp, hop, hit, Sem.run_bind, hrun, Result.andThen_ok, Sem.run_pure]
    exact hK' _ _ (hDone hl)
  · have hr1 : w1.heap[r]? = some (.mapIter (some b) since seen c0) := by rcases hal with rfl | rfl <;> exact h6
    have hb1 : w1.heap[b]? = some (.map es clock) := by rcases hal with rfl | rfl <;> exact h1
    have hset := heap_set (o' := .mapIter (some b) since (seen.push e.born) clock) hr1
    have hb' : (setBlock w1 r (.mapIter (some b) since (seen.push e.born) clock)).heap[b]? = some (.map es clock) := (hset.2 b (fun e1 => hne e1.symm)).trans hb1
    obtain ⟨i, hi, hie⟩ := List.getElem_of_mem he
    have hie' : (leftOf es seen).toList[i]? = some e := by rw [List.getElem?_eq_getElem hi, hie]
    have hk := congrArg (fun q : List Value => q[i]?) h9
    have hv := congrArg (fun q : List Value => q[i]?) h10
    simp only [List.getElem?_map, hie', Option.map_some] at hk hv
    obtain ⟨⟨x, y⟩, hxy⟩ : ∃ p, left[i]? = some p := by
      cases hq : left[i]? with
      | none => rw [hq] at hk; cases hk
      | some p => exact ⟨p, rfl⟩
    rw [hxy] at hk hv
    have hk' : e.key = kv x := by simpa using hk
    have hv' : e.val = vv y := by simpa using hv
    have hem : e ∈ es.toList := by rw [left_list] at he; exact (List.mem_filter.1 he).1
    have hsub : (leftOf es seen).toList.Pairwise (fun a b => a.born ≠ b.born) := by rw [left_list]; exact h5.filter _
    have hen := run_entry_at (P := P) _ r b since seen es clock e hset.1 hb' hem (by
      show (es.toList.map (·.born)).Pairwise (· ≠ ·)
      rw [List.pairwise_map]; exact h5)
    rw [hk', hv'] at hen hrun
    simp only [execOp, hop, hit, Sem.run_bind, hrun, Result.andThen_ok, Sem.run_pure]
    refine hK' _ _ (hMore x y i _ hxy ⟨es, clock, since, seen.push e.born, clock, hb', h2, h3, h4, h5, hset.1, h7, h8', h8', ?_, ?_⟩ ?_ ?_ hen)
    · rw [left_push, filter_erase hsub hie', map_erase, h9, map_erase]
    · rw [left_push, filter_erase hsub hie', map_erase, h10, map_erase]
    · rcases hal with rfl | rfl <;> exact ⟨rfl, rfl, rfl, by simp [setBlock], fun i _ hi => hset.2 i (fun e1 => hi (by rw [e1]))⟩
    · rcases hal with rfl | rfl <;> simp [setBlock]
end Go.Proofs.Ytacchooggifnhaa
namespace Go.Proofs.Ytacchooggifnhaa
open Go.RowKit Go.Sort
/-- The world has grown alone: new blocks, and draws. -/
def Grew (w w' : World) : Prop := Below w.heap.size w w' ∧ w.drawn ≤ w'.drawn
abbrev S2D (W : World) (b1 : Nat) (A1 : Array Value) (b2 : Nat) (A2 : Array Value) (w' : World) : Prop :=
  S2 W b1 A1 b2 A2 w' ∧ W.drawn ≤ w'.drawn
theorem S2D.start {W : World} {b1 : Nat} {A1 : Array Value} {b2 : Nat} {A2 : Array Value} (h1 : Box W b1 A1) (h2 : Box W b2 A2) : S2D W b1 A1 b2 A2 W.drew :=
  ⟨S2.start h1 h2, Nat.le_succ _⟩
theorem S2D.alloc {W w1 : World} {b1 : Nat} {A1 : Array Value} {b2 : Nat} {A2 : Array Value} {o : Obj} (h : S2D W b1 A1 b2 A2 w1) (h1 : Box W b1 A1) (h2 : Box W b2 A2) : S2D W b1 A1 b2 A2 (w1.alloc o) :=
  ⟨S2.ext (ext_alloc _ _) h.1 h1 h2, h.2⟩
theorem S2D.grew {w W w1 : World} {b1 : Nat} {A1 : Array Value} {b2 : Nat} {A2 : Array Value} (hw : Grew w W) (h : S2D W b1 A1 b2 A2 w1) : Grew w w1 :=
  ⟨ext_trans hw.1 h.1.1, Nat.le_trans hw.2 h.2⟩
instance : Inhabited Ev := ⟨⟨⟨#[]⟩, 0, 0, 0, ⟨#[]⟩, ⟨#[]⟩, 0, 0⟩⟩
theorem ordE_anti (a b : Ev) : ordE b a = - ordE a b := by
  unfold ordE orI; rw [cmpS_anti a.shard b.shard, cmpI_anti a.number b.number]
  by_cases h : cmpS a.shard b.shard = 0
  · simp [h]
  · rw [if_neg (by omega), if_neg h]
theorem ordE_trans {a b c : Ev} (h : ordE a b ≤ 0) (k : ordE b c ≤ 0) : ordE a c ≤ 0 := by
  unfold ordE orI at *
  by_cases h1 : cmpS a.shard b.shard = 0
  · have e := cmpS_zero h1
    simp only [h1, if_true] at h
    rw [e]
    by_cases h2 : cmpS b.shard c.shard = 0
    · simp only [h2, if_true] at k ⊢; exact cmpI_trans h k
    · simp only [h2, if_false] at k ⊢; exact k
  · simp only [h1, if_false] at h
    by_cases h2 : cmpS b.shard c.shard = 0
    · have e := cmpS_zero h2
      rw [← e]; simp only [h1, if_false]; exact h
    · simp only [h2, if_false] at k
      have h3 := cmpS_trans h k
      by_cases h4 : cmpS a.shard c.shard = 0
      · have e := cmpS_zero h4
        rw [← e, cmpS_anti a.shard b.shard] at k; omega
      · rw [if_neg h4]; exact h3
theorem ordE_lt_trans {a b c : Ev} (h : ordE a b < 0) (k : ordE b c < 0) : ordE a c < 0 := by
  have h1 : ordE a c ≤ 0 := @ordE_trans a b c (by omega) (by omega)
  rcases Int.lt_or_eq_of_le h1 with h2 | h2
  · exact h2
  · have h3 : ordE c a = 0 := by rw [ordE_anti, h2]; rfl
    have h4 : ordE c b ≤ 0 := @ordE_trans c a b (by omega) (by omega)
    rw [ordE_anti] at h4; omega
end Go.Proofs.Ytacchooggifnhaa
namespace Go.Proofs.Ytacchooggifnhaa
open Go.RowKit
theorem ev_ext {a b : Ev} (h0 : a.shard = b.shard) (h1 : a.number = b.number) (h2 : a.kind = b.kind) (h3 : a.time = b.time) (h4 : a.key = b.key) (h5 : a.name = b.name) (h6 : a.arm = b.arm) (h7 : a.n = b.n) : a = b := by
  cases a; cases b; simp_all
instance : DecidableEq Ev := fun a b => decidable_of_iff (a.shard = b.shard ∧ a.number = b.number ∧ a.kind = b.kind ∧ a.time = b.time ∧ a.key = b.key ∧ a.name = b.name ∧ a.arm = b.arm ∧ a.n = b.n)
  ⟨fun ⟨h0, h1, h2, h3, h4, h5, h6, h7⟩ => ev_ext h0 h1 h2 h3 h4 h5 h6 h7, fun h => by subst h; simp⟩
theorem toList_inj {a b : ByteArray} (h : a.toList = b.toList) : a = b := bytes_ext (by rw [← ByteArray.toList_eq, ← ByteArray.toList_eq]; exact h)
end Go.Proofs.Ytacchooggifnhaa
namespace Go.Proofs.Ytacchooggifnhaa
open Go.RowKit Go.ChangeMaps
namespace Ex
abbrev evV (e : Ev) : Value := .agg (evC e)
theorem str_same (x y : ByteArray) : (x == y) = decide (x = y) := by
  rw [beq_toListBytes, Bool.eq_iff_iff]
  simp only [beq_iff_eq, decide_eq_true_eq, ByteArray.toList_eq]
  exact ⟨bytes_ext, fun h => by rw [h]⟩
theorem str_ok : KeyOk Try.prog 9 Value.string := by
  refine KeyOk.now (kind := .string) Try.underlying9 (fun e x w => ?_) (fun x y => ?_) (fun x => ?_)
  · kernel_rfl
  · show some (x == y) = _
    rw [str_same]
  · show (x == x) = true
    rw [str_same]; simp
theorem zero_evt (w : World) : (zeroValue 42).run Try.prog w = .ok (.agg #[.string ⟨#[]⟩, .int .i64 0, .int .i64 0, .int .i64 0, .string ⟨#[]⟩, .string ⟨#[]⟩, .int .i64 0, .int .i64 0]) w := by kernel_rfl
theorem zero_bl (w : World) : (zeroValue 4).run Try.prog w = .ok (.bool false) w := by kernel_rfl
theorem turned_other {α β : Type} {kv : α → Value} {vv : β → Value} {w w' : World} {b b2 : Nat} {l : List (α × β)} (h : MapIs kv vv w b l) (ht : w.mapTurned w' b2) (hne : b ≠ b2) : MapIs kv vv w' b l := by
  obtain ⟨es, clock, h1, h2⟩ := h
  obtain ⟨es1, c1, es2, c2, k1, rfl⟩ := ht
  refine ⟨es, clock, ?_, h2⟩
  simp only [setBlock, Array.getElem?_setIfInBounds]
  rw [if_neg (fun e => hne e.symm)]; exact h1
theorem box_turned {w w' : World} {b m : Nat} {A : Array Value} (h : Box w b A) (ht : w.mapTurned w' m) : Box w' b A :=
  ⟨by rw [turned_size ht]; exact h.1, fun j => (turned_cell ht _).trans (h.2 j)⟩
/-- the eight cells of a block that is an event -/
theorem box_ev {w : World} {b : Nat} {e : Ev} (h : Box w b (evC e)) : w.cell? ⟨b, 0, none⟩ = some (.string e.shard) ∧ w.cell? ⟨b, 1, none⟩ = some (.int .i64 e.number) ∧ w.cell? ⟨b, 2, none⟩ = some (.int .i64 e.kind) ∧ w.cell? ⟨b, 3, none⟩ = some (.int .i64 e.time) ∧
      w.cell? ⟨b, 4, none⟩ = some (.string e.key) ∧ w.cell? ⟨b, 5, none⟩ = some (.string e.name) ∧ w.cell? ⟨b, 6, none⟩ = some (.int .i64 e.arm) ∧ w.cell? ⟨b, 7, none⟩ = some (.int .i64 e.n) :=
  ⟨h.2 0, h.2 1, h.2 2, h.2 3, h.2 4, h.2 5, h.2 6, h.2 7⟩
theorem wp_mapNew {α β : Type} (kv : α → Value) (vv : β → Value) {P : Program} {c : Code} {Q : Exit → Act → World → Prop} {a : Act} {w : World}
    (h : ∀ W, Below w.heap.size w W → MapIs kv vv W w.heap.size [] → c.wp P Q a W) : c.wp P Q a (w.alloc (.map #[] 0)) :=
  h _ (ext_alloc _ _) (MapIs.made kv vv w)
theorem isExp_kind {x : ByteArray} {e : Ev} (h : e.kind ≠ 1) : isExp x e = false := by unfold isExp; rw [decide_eq_false h]; rfl
theorem isExp_name {x : ByteArray} {e : Ev} (h : e.name ≠ x) : isExp x e = false := by unfold isExp; rw [decide_eq_false h]; simp
theorem isExp_yes {x : ByteArray} {e : Ev} (h : e.kind = 1) (k : e.name = x) : isExp x e = true := by unfold isExp; rw [decide_eq_true h, decide_eq_true k]; rfl
theorem step_no {x : ByteArray} {st : Fst × Mix} {e : Ev} (h : isExp x e = false) : stepX x st e = st := by unfold stepX; rw [if_neg (by rw [h]; decide)]
theorem step_new {x : ByteArray} {F : Fst} {M : Mix} {e : Ev} (h : isExp x e = true) (k : look F e.key = none) : stepX x (F, M) e = (putL F e.key e, M) := by unfold stepX; rw [if_pos h]; simp only [k]
theorem step_old {x : ByteArray} {F : Fst} {M : Mix} {e o : Ev} (h : isExp x e = true) (k : look F e.key = some o) : stepX x (F, M) e = (if e.time < o.time then putL F e.key e else F, if o.arm ≠ e.arm then putL M e.key true else M) := by unfold stepX; rw [if_pos h]; simp only [k]
end Ex
end Go.Proofs.Ytacchooggifnhaa
namespace Go.Proofs.Ytacchooggifnhaa
namespace St
open Go.Sort
variable {α : Type} [Inhabited α] {lt : α → α → Bool}
/-- where the symmetric search begins and ends -/
def s0 (a m b : Nat) : Nat := if (a + b) / 2 < m then (a + b) / 2 + m - b else a
def r0 (a m b : Nat) : Nat := if (a + b) / 2 < m then (a + b) / 2 else m
end St
end Go.Proofs.Ytacchooggifnhaa
namespace Go.Proofs.Ytacchooggifnhaa
namespace St
open Go.Shelf Go.RowKit Go.Lib Go.Sort
variable {P : Program} {α : Type} [Inhabited α]
theorem setMany_put (enc : α → List Value) (k : Nat) (hk : ∀ x, (enc x).length = k) (d : Array α) (i : Nat) (hi : i < d.size) (y : α) :
    setMany (flatK enc k d) (i * k) (enc y) = flatK enc k (d.setIfInBounds i y) := by
  refine ext_get! (by simp) fun t ht => ?_
  have ht' : t < d.size * k := by simpa using ht
  have k0 : 0 < k := by
    rcases Nat.eq_zero_or_pos k with h | h
    · subst h; simp at ht'
    · exact h
  rw [get_setMany _ _ _ t (by simpa using ht'), get_flatK _ _ _ t ht', get_flatK _ _ _ t (by simpa using ht'), hk]
  have m : ∀ q, t / k = q → t - q * k = t % k := fun q h => by subst h; rw [Nat.mod_eq_sub_div_mul]
  by_cases a : t / k = i
  · rw [if_pos ((blk_iff k i t k0).2 a), m i a, a, getElem!_set_same d i y hi]
  · rw [if_neg (fun h => a ((blk_iff k i t k0).1 h)), getElem!_set_other d i (t / k) y a]
variable {enc : α → List Value} {k : Nat} {w0 W : World} {blk off : Nat} {dk d0 : Array α}
theorem SWK.put (h : SWK enc k w0 blk off dk W) (R : RowK enc k w0 blk off d0) (i : Nat) (hi : i < dk.size) (y : α) :
    SWK enc k w0 blk off (dk.setIfInBounds i y) (W.setCells blk (off + i * k) (enc y)) := by
  obtain ⟨n, os, rfl⟩ := h
  refine ⟨n, os, ?_⟩
  unfold sortWorldK
  rw [setCells_grow os blk _ _ _ (by show blk < (putRowK enc k _ blk off dk).heap.size; rw [size_putRowK]; exact R.hblk)]
  congr 1
  unfold putRowK
  rw [setCells_putRow _ _ _ _ _ _ (by rw [R.hk, size_flatK]; exact rowK_bnd dk k i hi), setMany_put enc k R.hk dk i hi]
theorem SWK.below {B : Nat} (h : SWK enc k w0 blk off dk W) (hB : B ≤ blk) (hblk : blk < w0.heap.size) : Below B w0 W := by
  obtain ⟨n, os, rfl⟩ := h
  refine ⟨rfl, rfl, rfl, ?_, fun j hj => ?_⟩
  · unfold sortWorldK; rw [_root_.Go.Sort.size_grow, size_putRowK]; exact Nat.le_add_right _ _
  · unfold sortWorldK
    rw [_root_.Go.Sort.heap_grow_old _ _ (by rw [size_putRowK]; show j < w0.heap.size; omega)]
    simp only [putRowK, putRow, mapBlock, Array.getElem?_modify]
    rw [if_neg (by omega)]; rfl
variable [DecidableEq α]
end St
end Go.Proofs.Ytacchooggifnhaa
