/- Slices of words of 32 bits as numbers; blocks of words that the call owns. -/
import Derived.Test.YtkinapdfmgfdfaaProg
import Derived.Test.YtkinapdfmgfdfaaMem
import Derived.Test.YtkinapdfmgfdfaaNum
import Derived.IntWalk
import Derived.Laws.Rows
import Derived.Deep.OwnRows
namespace Go.Proofs.Ytkinapdfmgfdfaa
open Go.RowKit
namespace Nm
def wc (x : Nat) : Value := .int .u32 (x : Int)
def wcs (l : List Nat) : List Value := l.map wc
theorem wcs_length (l : List Nat) : (wcs l).length = l.length := by simp [wcs]
theorem wcs_get {l : List Nat} {k : Nat} (h : k < l.length) : (wcs l)[k]? = some (.int .u32 (l[k] : Int)) := by simp [wcs, wc, h]
theorem wcs_take (l : List Nat) (k : Nat) : (wcs l).take k = wcs (l.take k) := by simp [wcs, List.map_take]
theorem wcs_drop (l : List Nat) (k : Nat) : (wcs l).drop k = wcs (l.drop k) := by simp [wcs, List.map_drop]
theorem wcs_one (l : List Nat) : ∀ u ∈ wcs l, u.oneCell' = true := by
  intro u hu; simp only [wcs, List.mem_map] at hu; obtain ⟨c, _, rfl⟩ := hu; rfl
/-- The slice value v reads as the number n. -/
def N (w : World) (v : Value) (n : Nat) : Prop := Sl w v (wlen n) (wcs (digs n))
theorem N.ext {w w' : World} {v : Value} {n : Nat} (h : N w v n) (hb : Below w.heap.size w w') : N w' v n := Sl.ext h hb
theorem N.drew {w : World} {v : Value} {n : Nat} (h : N w v n) : N w.drew v n := h
theorem N.open_ {w : World} {v : Value} {n : Nat} (h : N w v n) : ∃ a c, v = .slice a (digs n).length c ∧ Sl w (.slice a (digs n).length c) (digs n).length (wcs (digs n)) := by
  obtain ⟨a, cap, rfl, h1⟩ := id h; exact ⟨a, cap, rfl, h⟩
theorem sl_addr {w : World} {a : Option Addr} {n c : Nat} {cs : List Value} (h : Sl w (.slice a n c) n cs) {k : Nat} {x : Value} (hk : cs[k]? = some x) : ∃ b o, a = some ⟨b, o, none⟩ ∧ w.cell? ⟨b, o + k, none⟩ = some x := by
  obtain ⟨a', cap, hv, _, _, _, h3⟩ := h
  cases hv
  exact h3 k x hk
theorem sl_caps {w : World} {a : Option Addr} {n c : Nat} {cs : List Value} (h : Sl w (.slice a n c) n cs) : n ≤ c ∧ c ≤ 9223372036854775807 := by
  obtain ⟨a', cap, hv, h1, h2, _, h3⟩ := h
  cases hv
  unfold maxLen at h2; exact ⟨h1, h2⟩
theorem sl_take {w : World} {a : Option Addr} {n c : Nat} {cs : List Value} (h : Sl w (.slice a n c) n cs) {k : Nat} (hk : k ≤ n) : Sl w (.slice a k c) k (cs.take k) := by
  obtain ⟨a', cap, hv, h1, h2, h0, h3⟩ := h
  cases hv
  refine ⟨a, c, rfl, by omega, h2, h0, fun i x hx => h3 i x ?_⟩
  rw [List.getElem?_take] at hx
  split at hx
  · exact hx
  · cases hx
/-- a call that leaves the world as it is, and returns a number -/
def TrimPost (w : World) (n : Nat) (e : Ending) (w' : World) : Prop := ∃ v, e = .returned v ∧ N w v n ∧ w = w'
/-- a call that returns a number, and makes memory -/
def NPost (w : World) (n : Nat) (e : Ending) (w' : World) : Prop := ∃ v, e = .returned v ∧ N w' v n ∧ Below w.heap.size w w'

/-- the block b is the call's own row of words, with whatever spare cells behind them -/
def Own (w : World) (b : Nat) (l : List Nat) : Prop := ∃ cur rest, w.heap[b]? = some (.cells cur 97 (0, 0)) ∧ cur.toList = wcs l ++ rest
theorem Own.lt {w : World} {b : Nat} {l : List Nat} (h : Own w b l) : b < w.heap.size := by
  obtain ⟨cur, rest, h, _⟩ := h
  rcases Nat.lt_or_ge b w.heap.size with hlt | hge
  · exact hlt
  · rw [Array.getElem?_eq_none hge] at h; cases h
theorem Own.cell {w : World} {b : Nat} {l : List Nat} (h : Own w b l) {i : Nat} (hi : i < l.length) : w.cell? ⟨b, i, none⟩ = some (.int .u32 (l[i] : Int)) := by
  obtain ⟨cur, rest, h, hc⟩ := h
  have := cell_of_row w b i _ _ (0, 0) h
  rw [this, ← Array.getElem?_toList, hc, List.getElem?_append_left (by rw [wcs_length]; exact hi), wcs_get hi]
theorem Own.frozen {w : World} {b : Nat} {l : List Nat} (h : Own w b l) (i : Nat) : w.frozen? ⟨b, i, none⟩ = false := by
  obtain ⟨cur, rest, h, hc⟩ := h; simp [World.frozen?, h]
theorem Own.set {w : World} {b : Nat} {l : List Nat} (h : Own w b l) {i : Nat} (hi : i < l.length) (x : Nat) : Own (w.setCell ⟨b, i, none⟩ (.int .u32 (x : Int))) b (l.set i x) := by
  obtain ⟨cur, rest, h, hc⟩ := h
  refine ⟨cur.setIfInBounds i (.int .u32 (x : Int)), rest, ?_, ?_⟩
  · simp only [World.setCell, Array.getElem?_modify, h]; simp
  · rw [Array.toList_setIfInBounds, hc, List.set_append_left _ _ (by rw [wcs_length]; exact hi)]
    simp [wcs, List.map_set, wc]
theorem Own.set' {w : World} {b : Nat} {l : List Nat} (h : Own w b l) {i : Nat} (hi : i < l.length) (x : Nat) {z : Int} (hz : z = (x : Int)) : Own (w.setCell ⟨b, i, none⟩ (.int .u32 z)) b (l.set i x) := by
  subst hz; exact h.set hi x
theorem Hid.len_set {l : List Nat} {n : Nat} (h : Hid (l.length = n)) (k x : Nat) : Hid ((l.set k x).length = n) := by
  have : (l.set k x).length = n := by rw [List.length_set]; exact h.out
  exact this
theorem Hid.dg_set {l : List Nat} (h : Hid (Dg l)) (k : Nat) {x : Nat} (hx : x < B) : Hid (Dg (l.set k x)) := Dg.set h.out k hx
theorem Own.drew {w : World} {b : Nat} {l : List Nat} (h : Own w b l) : Own w.drew b l := h
theorem Own.keep {w w' : World} {b : Nat} {l : List Nat} (h : Own w b l) (hb : w'.heap[b]? = w.heap[b]?) : Own w' b l := by
  obtain ⟨cur, rest, h, hc⟩ := h; exact ⟨cur, rest, hb.trans h, hc⟩
theorem Own.alloc {w : World} {b : Nat} {l : List Nat} (h : Own w b l) (o : Obj) : Own (w.alloc o) b l := h.keep (Below.heap_alloc w o b h.lt)
theorem Own.ext {w w' : World} {b : Nat} {l : List Nat} (h : Own w b l) (hb : Below w.heap.size w w') : Own w' b l := h.keep (hb.block b h.lt)
theorem Own.far {w : World} {b : Nat} {l : List Nat} (h : Own w b l) {p : Addr} (hp : b ≠ p.block) (u : Value) : Own (w.setCell p u) b l := h.keep (Below.heap_setCell w p u b hp)
theorem Own.sl {w : World} {b : Nat} {l : List Nat} (h : Own w b l) {c : Nat} (h1 : l.length ≤ c) (h2 : c ≤ maxLen) : Sl w (.slice (some ⟨b, 0, none⟩) l.length c) l.length (wcs l) := by
  refine ⟨_, c, rfl, h1, h2, (fun h => by cases h), fun i x hx => ⟨b, 0, rfl, ?_⟩⟩
  have hi : i < l.length := by have := (List.getElem?_eq_some_iff.1 hx).1; rwa [wcs_length] at this
  rw [wcs_get hi] at hx
  rw [Nat.zero_add, h.cell hi, hx]
theorem Own.new (w : World) (l : List Nat) : Own (w.alloc (.cells (wcs l).toArray 97)) w.heap.size l := ⟨_, [], heap_alloc_new w _, by simp⟩
/-- what append leaves -/
theorem Own.ofRow {w : World} {base n : Nat} {v : Value} {l : List Nat} (h : w.ownsRow base 97 1 v n (wcs l)) (hn : 0 < n) : ∃ g cap, v = .slice (some ⟨g, 0, none⟩) n cap ∧ base ≤ g ∧ n ≤ cap ∧ cap ≤ maxLen ∧ Own w g l := by
  obtain ⟨h1, ⟨_, h2⟩ | ⟨g, cap, cur, rfl, hb, hg, hn, hm, hs, ht⟩⟩ := h
  · omega
  · refine ⟨g, cap, rfl, hb, hn, hm, cur, cur.toList.drop (n * 1), hg, ?_⟩
    rw [← ht, List.take_append_drop]
theorem u32_info : (Try.prog.info? 97).map (fun i => (i.zero, i.size, i.bytes)) = some (some (.int .u32 0), 1, 4) := by kernel_rfl
theorem madeCells_words (n : Nat) : madeCells #[Value.int .u32 0] n = (wcs (List.replicate n 0)).toArray := by
  apply Array.ext
  · simp [size_madeCells, wcs]
  · intro i h1 h2; simp [madeCells, wcs, wc, Nat.mod_one]
/-- make([]uint32, n): a new row of zeros; the world goes on under a name -/
theorem wpList_make_words {w : World} {ops : Array Oper} {rest : List Oper} {o : Oper} {a : Act} {Q : Exit → Act → World → Prop}
    (hg : o.guard = none) (l c : Operand) (hop : o.op = Op.makeSlice 51 l c) {z : Int} (n : Nat) (hl : a.eval l = .int .i64 z) (hc : a.eval c = .int .i64 z) (hz : z = (n : Int)) (hb : n ≤ 10000000000)
    (h : ∀ W, Own W w.heap.size (List.replicate n 0) → Below w.heap.size w W → W.heap.size = w.heap.size + 1 → wpList Try.prog ops Q rest (a.put o.dst (.slice (some ⟨w.heap.size, 0, none⟩) n n)) W) :
    wpList Try.prog ops Q (o :: rest) a w := by
  subst hz
  obtain ⟨i, hi, hz0, hz1, hz2⟩ := info_parts u32_info
  refine wpList_make_row w hg l c _ hop 97 i _ Try.underlying51 hi hz0 hz1 rfl _ _ n hl hc (by rw [hz2]; omega) (by omega) ?_
  rw [madeCells_words]
  exact h _ (Own.new _ _) (by go_grown) (by simp)
end Nm
end Go.Proofs.Ytkinapdfmgfdfaa
