/- Slices of digits to the base 10^9 as numbers; blocks of words that the call owns. trim, order, small of the reference's natural numbers (digits to the base 10^9); append of a digit. plus, minus of the reference's natural numbers. times of the reference's natural numbers. Division of numbers of many words: plain mathematics. take, give, guess of the reference's natural numbers. trim and scaled with rows of the call's own of the reference's natural numbers. divide of the reference's natural numbers. text of the reference's natural numbers: the decimal numeral. readNatural of the reference: the number that decimal digits say. CheckRatio of the reference. -/
import Derived.Test.YtilolnjbpokdnaaProg
import Derived.Test.YtilolnjbpokdnaaBd00
import Derived.Test.YtilolnjbpokdnaaBd13
import Derived.IntWalk
import Derived.Laws.Rows
import Derived.Deep.OwnRows
import Derived.Deep.QuietTactic
import Derived.BigQuiet
import Derived.Deep.Cut
import Derived.Test.YtilolnjbpokdnaaShelf
import Derived.Test.YtilolnjbpokdnaaBd07
import Derived.Lib.SmallJoins
import Derived.Lib.AppendIntMem
import Derived.Deep.LoopGhost
import Derived.Lib.Strings
import Derived.Lib.Walk
import Derived.Lib.Builder
import Derived.Lib.AppendStr
import Derived.WalkKit
import Derived.Laws.Externs
import Derived.Test.YtilolnjbpokdnaaBd10
import Derived.Test.YtilolnjbpokdnaaBd12
namespace Go.Proofs.Ytilolnjbpokdnaa
open Go.RowKit
namespace Nt
def wc (x : Nat) : Value := .int .i64 (x : Int)
def wcs (l : List Nat) : List Value := l.map wc
theorem wcs_length (l : List Nat) : (wcs l).length = l.length := by simp [wcs]
theorem wcs_get {l : List Nat} {k : Nat} (h : k < l.length) : (wcs l)[k]? = some (.int .i64 (l[k] : Int)) := by simp [wcs, wc, h]
theorem wcs_take (l : List Nat) (k : Nat) : (wcs l).take k = wcs (l.take k) := by simp [wcs, List.map_take]
theorem wcs_one (l : List Nat) : ∀ u ∈ wcs l, u.oneCell' = true := by
  intro u hu; simp only [wcs, List.mem_map] at hu; obtain ⟨c, _, rfl⟩ := hu; rfl
/-- The slice value v reads as the number n. -/
def N (w : World) (v : Value) (n : Nat) : Prop := Sl w v (wlen n) (wcs (digs n))
theorem N.ext {w w' : World} {v : Value} {n : Nat} (h : N w v n) (hb : Below w.heap.size w w') : N w' v n := Sl.ext h hb
theorem N.drew {w : World} {v : Value} {n : Nat} (h : N w v n) : N w.drew v n := h
theorem N.open_ {w : World} {v : Value} {n : Nat} (h : N w v n) : ∃ a c, v = .slice a (digs n).length c ∧ Sl w (.slice a (digs n).length c) (digs n).length (wcs (digs n)) := by
  obtain ⟨a, cap, rfl, h1⟩ := id h; exact ⟨a, cap, rfl, h⟩
theorem sl_addr {w : World} {a : Option Addr} {n c : Nat} {cs : List Value} (h : Sl w (.slice a n c) n cs) {k : Nat} {x : Value} (hk : cs[k]? = some x) : ∃ b o, a = some ⟨b, o, none⟩ ∧ w.cell? ⟨b, o + k, none⟩ = some x := by
  obtain ⟨a', cap, hv, _, _, _, h3⟩ := h
  cases hv
  exact h3 k x hk
theorem sl_caps {w : World} {a : Option Addr} {n c : Nat} {cs : List Value} (h : Sl w (.slice a n c) n cs) : n ≤ c ∧ c ≤ 9223372036854775807 := by
  obtain ⟨a', cap, hv, h1, h2, _, h3⟩ := h
  cases hv
  unfold maxLen at h2; exact ⟨h1, h2⟩
theorem sl_take {w : World} {a : Option Addr} {n c : Nat} {cs : List Value} (h : Sl w (.slice a n c) n cs) {k : Nat} (hk : k ≤ n) : Sl w (.slice a k c) k (cs.take k) := by
  obtain ⟨a', cap, hv, h1, h2, h0, h3⟩ := h
  cases hv
  refine ⟨a, c, rfl, by omega, h2, h0, fun i x hx => h3 i x ?_⟩
  rw [List.getElem?_take] at hx
  split at hx
  · exact hx
  · cases hx
/-- a call that leaves the world as it is, and returns a number -/
def TrimPost (w : World) (n : Nat) (e : Ending) (w' : World) : Prop := ∃ v, e = .returned v ∧ N w v n ∧ w = w'
/-- a call that returns a number, and makes memory -/
def NPost (w : World) (n : Nat) (e : Ending) (w' : World) : Prop := ∃ v, e = .returned v ∧ N w' v n ∧ Below w.heap.size w w'

/-- the block b is the call's own row of words, with whatever spare cells behind them -/
def Own (w : World) (b : Nat) (l : List Nat) : Prop := ∃ cur rest, w.heap[b]? = some (.cells cur 3 (0, 0)) ∧ cur.toList = wcs l ++ rest
theorem Own.lt {w : World} {b : Nat} {l : List Nat} (h : Own w b l) : b < w.heap.size := by
  obtain ⟨cur, rest, h, _⟩ := h
  rcases Nat.lt_or_ge b w.heap.size with hlt | hge
  · exact hlt
  · rw [Array.getElem?_eq_none hge] at h; cases h
theorem Own.cell {w : World} {b : Nat} {l : List Nat} (h : Own w b l) {i : Nat} (hi : i < l.length) : w.cell? ⟨b, i, none⟩ = some (.int .i64 (l[i] : Int)) := by
  obtain ⟨cur, rest, h, hc⟩ := h
  have := cell_of_row w b i _ _ (0, 0) h
  rw [this, ← Array.getElem?_toList, hc, List.getElem?_append_left (by rw [wcs_length]; exact hi), wcs_get hi]
theorem Own.frozen {w : World} {b : Nat} {l : List Nat} (h : Own w b l) (i : Nat) : w.frozen? ⟨b, i, none⟩ = false := by
  obtain ⟨cur, rest, h, hc⟩ := h; simp [World.frozen?, h]
theorem Own.set {w : World} {b : Nat} {l : List Nat} (h : Own w b l) {i : Nat} (hi : i < l.length) (x : Nat) : Own (w.setCell ⟨b, i, none⟩ (.int .i64 (x : Int))) b (l.set i x) := by
  obtain ⟨cur, rest, h, hc⟩ := h
  refine ⟨cur.setIfInBounds i (.int .i64 (x : Int)), rest, ?_, ?_⟩
  · simp only [World.setCell, Array.getElem?_modify, h]; simp
  · rw [Array.toList_setIfInBounds, hc, List.set_append_left _ _ (by rw [wcs_length]; exact hi)]
    simp [wcs, List.map_set, wc]
theorem Own.set' {w : World} {b : Nat} {l : List Nat} (h : Own w b l) {i : Nat} (hi : i < l.length) (x : Nat) {z : Int} (hz : z = (x : Int)) : Own (w.setCell ⟨b, i, none⟩ (.int .i64 z)) b (l.set i x) := by
  subst hz; exact h.set hi x
theorem Hid.len_set {l : List Nat} {n : Nat} (h : Hid (l.length = n)) (k x : Nat) : Hid ((l.set k x).length = n) := by
  have : (l.set k x).length = n := by rw [List.length_set]; exact h.out
  exact this
theorem Hid.dg_set {l : List Nat} (h : Hid (Dg l)) (k : Nat) {x : Nat} (hx : x < B) : Hid (Dg (l.set k x)) := Dg.set h.out k hx
theorem Own.drew {w : World} {b : Nat} {l : List Nat} (h : Own w b l) : Own w.drew b l := h
theorem Own.keep {w w' : World} {b : Nat} {l : List Nat} (h : Own w b l) (hb : w'.heap[b]? = w.heap[b]?) : Own w' b l := by
  obtain ⟨cur, rest, h, hc⟩ := h; exact ⟨cur, rest, hb.trans h, hc⟩
theorem Own.alloc {w : World} {b : Nat} {l : List Nat} (h : Own w b l) (o : Obj) : Own (w.alloc o) b l := h.keep (Below.heap_alloc w o b h.lt)
theorem Own.ext {w w' : World} {b : Nat} {l : List Nat} (h : Own w b l) (hb : Below w.heap.size w w') : Own w' b l := h.keep (hb.block b h.lt)
theorem Own.far {w : World} {b : Nat} {l : List Nat} (h : Own w b l) {p : Addr} (hp : b ≠ p.block) (u : Value) : Own (w.setCell p u) b l := h.keep (Below.heap_setCell w p u b hp)
theorem Own.sl {w : World} {b : Nat} {l : List Nat} (h : Own w b l) {c : Nat} (h1 : l.length ≤ c) (h2 : c ≤ maxLen) : Sl w (.slice (some ⟨b, 0, none⟩) l.length c) l.length (wcs l) := by
  refine ⟨_, c, rfl, h1, h2, (fun h => by cases h), fun i x hx => ⟨b, 0, rfl, ?_⟩⟩
  have hi : i < l.length := by have := (List.getElem?_eq_some_iff.1 hx).1; rwa [wcs_length] at this
  rw [wcs_get hi] at hx
  rw [Nat.zero_add, h.cell hi, hx]
theorem Own.new (w : World) (l : List Nat) : Own (w.alloc (.cells (wcs l).toArray 3)) w.heap.size l := ⟨_, [], heap_alloc_new w _, by simp⟩
/-- what append leaves -/
theorem Own.ofRow {w : World} {base n : Nat} {v : Value} {l : List Nat} (h : w.ownsRow base 3 1 v n (wcs l)) (hn : 0 < n) : ∃ g cap, v = .slice (some ⟨g, 0, none⟩) n cap ∧ base ≤ g ∧ n ≤ cap ∧ cap ≤ maxLen ∧ Own w g l := by
  obtain ⟨h1, ⟨_, h2⟩ | ⟨g, cap, cur, rfl, hb, hg, hn, hm, hs, ht⟩⟩ := h
  · omega
  · refine ⟨g, cap, rfl, hb, hn, hm, cur, cur.toList.drop (n * 1), hg, ?_⟩
    rw [← ht, List.take_append_drop]
theorem madeCells_words (n : Nat) : madeCells #[Value.int .i64 0] n = (wcs (List.replicate n 0)).toArray := by
  apply Array.ext
  · simp [size_madeCells, wcs]
  · intro i h1 h2; simp [madeCells, wcs, wc, Nat.mod_one]
end Nt
end Go.Proofs.Ytilolnjbpokdnaa
namespace Go.Proofs.Ytilolnjbpokdnaa
open Go.RowKit
namespace Nt
/-- a row of digits of the call's own -/
def Row (w : World) (base : Nat) (v : Value) (l : List Nat) : Prop := w.ownsRow base 3 1 v l.length (wcs l)
theorem Row.nil (w : World) (base : Nat) : Row w base (.slice none 0 0) [] := ⟨by simp [wcs], .inl ⟨rfl, rfl⟩⟩
theorem Row.ext {w w' : World} {base : Nat} {v : Value} {l : List Nat} (h : Row w base v l) (hb : Below w.heap.size w w') : Row w' base v l := ownsRow_ext h hb
theorem Row.sl {w : World} {base : Nat} {v : Value} {l : List Nat} (h : Row w base v l) : Sl w v l.length (wcs l) := Sl.ofOwn h
theorem Row.own {w : World} {base : Nat} {v : Value} {l : List Nat} (h : Row w base v l) (hn : 0 < l.length) : ∃ g cap, v = .slice (some ⟨g, 0, none⟩) l.length cap ∧ base ≤ g ∧ l.length ≤ cap ∧ cap ≤ maxLen ∧ Own w g l := Own.ofRow h hn
def QPost (w : World) (v : Value) (e : Ending) (w' : World) : Prop := e = .returned v ∧ ∃ k, w' = w.drewN k
end Nt
end Go.Proofs.Ytilolnjbpokdnaa
namespace Go.Proofs.Ytilolnjbpokdnaa
open Go.RowKit
namespace Nt
theorem minus_step {P V A C X Y br n b2 : Nat} (h : V + C = A + P * br) (e : n + Y + br = X + B * b2) : (V + P * n) + (C + P * Y) = (A + P * X) + P * B * b2 := by
  have h2 : P * (n + Y + br) = P * (X + B * b2) := by rw [e]
  rw [Nat.mul_add, Nat.mul_add, Nat.mul_add, ← Nat.mul_assoc] at h2
  omega
end Nt
end Go.Proofs.Ytilolnjbpokdnaa
namespace Go.Proofs.Ytilolnjbpokdnaa
open Go.RowKit
namespace Nt
theorem mul_step {Pi Pk V V' V0 cr X Y O vk z q : Nat} (hset : V' + Pi * Pk * O = V + Pi * Pk * z) (hinv : V + Pi * Pk * cr = V0 + Pi * (X * vk)) (hs : z + B * q = cr + (X * Y + O)) : V' + Pi * (Pk * B) * q = V0 + Pi * (X * (vk + Pk * Y)) := by
  have e : Pi * Pk * (z + B * q) = Pi * Pk * (cr + (X * Y + O)) := by rw [hs]
  rw [Nat.mul_add, Nat.mul_add, Nat.mul_add] at e
  have e1 : Pi * (Pk * B) * q = Pi * Pk * (B * q) := by ac_rfl
  have e2 : Pi * (X * (vk + Pk * Y)) = Pi * (X * vk) + Pi * Pk * (X * Y) := by
    rw [Nat.mul_add, Nat.mul_add]; congr 1; ac_rfl
  omega
theorem mul_le {X Y : Nat} (hX : X < 1000000000) (hY : Y < 1000000000) : (X : Int) * (Y : Int) ≤ 999999998000000001 ∧ 0 ≤ (X : Int) * (Y : Int) := by
  have h : X * Y ≤ 999999999 * 999999999 := Nat.mul_le_mul (by omega) (by omega)
  have h2 : ((X * Y : Nat) : Int) = (X : Int) * (Y : Int) := Int.natCast_mul _ _
  omega
theorem val_take_set_in (l : List Nat) (k y T : Nat) (h : k < T) (hT : T ≤ l.length) : val ((l.set k y).take T) + B ^ k * l[k]'(by omega) = val (l.take T) + B ^ k * y := by
  have h1 : k < (l.take T).length := by rw [List.length_take]; omega
  have := val_set (l.take T) k y h1
  rw [List.take_set]
  simpa using this
/-- no digit from a place on -/
def Zr (l : List Nat) (t : Nat) : Prop := ∀ j, t ≤ j → wd l j = 0
theorem wd_set_ne (l : List Nat) {k j : Nat} (z : Nat) (h : k ≠ j) : wd (l.set k z) j = wd l j := by
  unfold wd; rw [List.getD_eq_getElem?_getD, List.getD_eq_getElem?_getD, List.getElem?_set_ne h]
theorem Zr.set {l : List Nat} {t k : Nat} (h : Zr l t) (z : Nat) (hk : k < t) : Zr (l.set k z) t := fun j hj => by rw [wd_set_ne _ _ (by omega)]; exact h j hj
theorem Zr.zeros (n t : Nat) : Zr (List.replicate n 0) t := fun j _ => by
  unfold wd
  rw [List.getD_eq_getElem?_getD, List.getElem?_replicate]
  split <;> rfl
theorem Zr.mono {l : List Nat} {t t' : Nat} (h : Zr l t) (ht : t ≤ t') : Zr l t' := fun j hj => h j (by omega)
end Nt
end Go.Proofs.Ytilolnjbpokdnaa
namespace Go.Proofs.Ytilolnjbpokdnaa
namespace Nt
/-- the guess is at most two too great -/
theorem guess_start {two top next P vl u0 ul V U : Nat} (hV : V = (top * B + next) * P + vl) (hU : U = (two * B + u0) * P + ul) (hvl : vl < P) (hul : ul < P) (hu0 : u0 < B) (hnext : next < B) (htop : 500000000 ≤ top) (hUV : U < B * V) :
    two / top ≤ B + 1 ∧ U < (two / top + 1) * V := by
  have hP : 0 < P := by omega
  constructor
  · have h1 : two * B * P ≤ U := by
      rw [hU, Nat.add_mul]; omega
    have h2 : V < (top * B + next + 1) * P := by rw [hV, Nat.add_mul (top * B + next) 1 P]; omega
    have h3 : B * V < B * ((top * B + next + 1) * P) := Nat.mul_lt_mul_of_pos_left h2 B_pos
    have h4 : two * B * P < (top * B + next + 1) * B * P := by
      have : B * ((top * B + next + 1) * P) = (top * B + next + 1) * B * P := by ac_rfl
      omega
    have h5 : two * B < (top * B + next + 1) * B := Nat.lt_of_mul_lt_mul_right h4
    have h6 : two < top * B + next + 1 := Nat.lt_of_mul_lt_mul_right h5
    have h7 : two < top * (B + 2) := by have hb := B_eq; rw [Nat.mul_add]; omega
    have h8 : two / top < B + 2 := by rw [Nat.div_lt_iff_lt_mul (by omega), Nat.mul_comm]; exact h7
    omega
  · have h1 : two < (two / top + 1) * top := by
      have := Nat.div_add_mod two top
      have h2 := Nat.mod_lt two (show 0 < top by omega)
      rw [Nat.add_mul, Nat.one_mul, Nat.mul_comm (two / top)]; omega
    have h2 : U < (two + 1) * B * P := by
      rw [hU]
      have : (two * B + u0) * P + ul < (two * B + u0 + 1) * P := by rw [Nat.add_mul (two * B + u0) 1 P]; omega
      refine Nat.lt_of_lt_of_le this (Nat.mul_le_mul_right _ ?_)
      rw [Nat.add_mul]; omega
    have h3 : (two + 1) * B * P ≤ (two / top + 1) * top * B * P := Nat.mul_le_mul_right _ (Nat.mul_le_mul_right _ h1)
    have h4 : (two / top + 1) * top * B * P ≤ (two / top + 1) * V := by
      rw [hV, Nat.mul_assoc, Nat.mul_assoc]
      refine Nat.mul_le_mul_left _ ?_
      rw [← Nat.mul_assoc, Nat.add_mul]; omega
    omega
theorem guess_less {g r two top next P vl u0 ul V U : Nat} (hV : V = (top * B + next) * P + vl) (hU : U = (two * B + u0) * P + ul) (hul : ul < P) (hgr : g * top + r = two) (h : r * B + u0 < g * next) : U < g * V := by
  have h1 : two * B + u0 + 1 ≤ g * (top * B + next) := by
    rw [← hgr, Nat.mul_add, ← Nat.mul_assoc, Nat.add_mul]; omega
  have h2 : (two * B + u0 + 1) * P ≤ g * (top * B + next) * P := Nat.mul_le_mul_right _ h1
  have h3 : g * (top * B + next) * P ≤ g * V := by rw [hV, Nat.mul_assoc]; exact Nat.mul_le_mul_left _ (by omega)
  rw [Nat.add_mul (two * B + u0) 1 P] at h2
  omega
theorem guess_end {g r two top next P vl u0 ul V U : Nat} (hV : V = (top * B + next) * P + vl) (hU : U = (two * B + u0) * P + ul) (hvl : vl < P) (htop : 1 ≤ top) (hg : g ≤ B) (hgr : g * top + r = two) (h : g * next ≤ r * B + u0) : g * V < U + V := by
  have h1 : g * (top * B + next) ≤ two * B + u0 := by
    rw [← hgr, Nat.mul_add, ← Nat.mul_assoc, Nat.add_mul]; omega
  have h2 : g * (top * B + next) * P ≤ (two * B + u0) * P := Nat.mul_le_mul_right _ h1
  have h3 : g * vl ≤ B * vl := Nat.mul_le_mul_right _ hg
  have h4 : B * (vl + 1) ≤ B * P := Nat.mul_le_mul_left _ hvl
  have h5 : 1 * B * P ≤ top * B * P := Nat.mul_le_mul_right _ (Nat.mul_le_mul_right _ htop)
  have h6 : top * B * P ≤ V := by rw [hV, Nat.add_mul]; omega
  have h7 : g * V = g * (top * B + next) * P + g * vl := by rw [hV, Nat.mul_add, Nat.mul_assoc]
  have := B_pos
  rw [Nat.mul_add, Nat.mul_one] at h4
  rw [Nat.one_mul] at h5
  omega
/-- the words of the divisor from the top -/
theorem val_top {l : List Nat} {m : Nat} (hm : 2 ≤ m) (hl : l.length = m) : ∃ (h1 : m - 1 < l.length) (h2 : m - 2 < l.length), val l = (l[m - 1] * B + l[m - 2]) * B ^ (m - 2) + val (l.take (m - 2)) := by
  refine ⟨by omega, by omega, ?_⟩
  have e1 := val_take_succ l (m - 1) (by omega)
  have e2 := val_take_succ l (m - 2) (by omega)
  rw [show m - 1 + 1 = m by omega, List.take_of_length_le (by omega)] at e1
  rw [show m - 2 + 1 = m - 1 by omega] at e2
  have e3 : B ^ (m - 1) = B ^ (m - 2) * B := by rw [← Nat.pow_succ]; congr 1; omega
  rw [e1, e2, e3, Nat.add_mul]
  have : l[m - 1] * B * B ^ (m - 2) = B ^ (m - 2) * B * l[m - 1] := by ac_rfl
  rw [Nat.mul_comm l[m - 2]]
  omega
/-- the quotient of what is shifted -/
theorem shift_div {x y d Q R : Nat} (hd : 0 < d) (hy : 0 < y) (h : x * d = Q * (y * d) + R) (hR : R < y * d) : Q = x / y ∧ R / d = x % y := by
  have hQ : x * d / (y * d) = Q := by
    rw [h, Nat.add_comm, Nat.add_mul_div_right _ _ (Nat.mul_pos hy hd), Nat.div_eq_of_lt hR, Nat.zero_add]
  have hR2 : x * d % (y * d) = R := by rw [h, Nat.add_comm, Nat.add_mul_mod_self_right, Nat.mod_eq_of_lt hR]
  rw [Nat.mul_div_mul_right _ _ hd] at hQ
  rw [Nat.mul_mod_mul_right] at hR2
  exact ⟨hQ.symm, by rw [← hR2, Nat.mul_div_cancel _ hd]⟩
theorem norm_top {y f m : Nat} (hm : wlen y = m) (hm1 : 1 ≤ m) {t : Nat} (ht : wd (digs y) (m - 1) = t) (h1 : 500000000 ≤ t * f) (ht2 : (t + 1) * f ≤ 1000000000) : wlen (y * f) = m ∧ 500000000 ≤ wd (digs (y * f)) (m - 1) ∧ B ^ (m - 1) * f ≤ y * f ∧ y * f < B ^ m := by
  have hl : (digs y).length = m := hm
  have e := val_take_wd (digs y) (m - 1)
  rw [show m - 1 + 1 = m by omega, List.take_of_length_le (by omega), val_digs, ht] at e
  have hlow := val_lt ((digs_dg y).take (m - 1))
  rw [List.length_take, Nat.min_eq_left (by omega)] at hlow
  have hB : B ^ m = B ^ (m - 1) * B := by rw [← Nat.pow_succ]; congr 1; omega
  have hy0 : 0 < t := by
    rcases Nat.eq_zero_or_pos t with h | h
    · subst h; simp at h1
    · exact h
  have hp : 0 < f := by
    rcases Nat.eq_zero_or_pos f with h | h
    · subst h; simp at h1
    · exact h
  have hup : y * f < B ^ m := by
    rw [hB]
    have h3 : y < B ^ (m - 1) * (t + 1) := by rw [Nat.mul_add]; omega
    have h4 := Nat.mul_lt_mul_of_pos_right h3 hp
    refine Nat.lt_of_lt_of_le h4 ?_
    rw [Nat.mul_assoc]; exact Nat.mul_le_mul_left _ (by rw [B_eq]; exact ht2)
  have hlo : B ^ (m - 1) * (t * f) ≤ y * f := by
    rw [← Nat.mul_assoc]; exact Nat.mul_le_mul_right _ (by omega)
  have hlo2 : B ^ (m - 1) * 500000000 ≤ y * f := Nat.le_trans (Nat.mul_le_mul_left _ h1) hlo
  have hBp : 0 < B ^ (m - 1) := Nat.pow_pos B_pos
  have hw : wlen (y * f) = m := by
    refine Nat.le_antisymm (wlen_le hup) ?_
    have h5 := lt_pow_wlen (y * f)
    have h6 : B ^ (m - 1) < B ^ wlen (y * f) := by omega
    have := (Nat.pow_lt_pow_iff_right (show 1 < B by decide)).1 h6
    omega
  refine ⟨hw, ?_, ?_, hup⟩
  · have hl2 : (digs (y * f)).length = m := hw
    have e2 := val_take_wd (digs (y * f)) (m - 1)
    rw [show m - 1 + 1 = m by omega, List.take_of_length_le (by omega), val_digs] at e2
    have hlow2 := val_lt ((digs_dg (y * f)).take (m - 1))
    rw [List.length_take, Nat.min_eq_left (by omega)] at hlow2
    generalize wd (digs (y * f)) (m - 1) = T at *
    have h7 : B ^ (m - 1) * 500000000 < B ^ (m - 1) * (T + 1) := by rw [Nat.mul_add (B ^ (m - 1)) T 1]; omega
    have := Nat.lt_of_mul_lt_mul_left h7
    omega
  · refine Nat.mul_le_mul_right _ ?_
    have : B ^ (m - 1) * 1 ≤ B ^ (m - 1) * t := Nat.mul_le_mul_left _ hy0
    omega
theorem start_lt {x f n m V : Nat} {u0 : List Nat} (hp : 0 < f) (hl : u0.length = n + 1) (huv : val u0 = x * f) (hx : x < B ^ n) (hV : B ^ (m - 1) * f ≤ V) (h1 : 1 ≤ m) (hmn : m ≤ n) : val (u0.drop (n + 1 - m)) < V := by
  have e := val_take_drop u0 (n + 1 - m) (by omega)
  rw [huv] at e
  rcases Nat.lt_or_ge (val (u0.drop (n + 1 - m))) V with h | h
  · exact h
  · exfalso
    have h2 : B ^ (n + 1 - m) * (B ^ (m - 1) * f) ≤ B ^ (n + 1 - m) * val (u0.drop (n + 1 - m)) := Nat.mul_le_mul_left _ (Nat.le_trans hV h)
    rw [← Nat.mul_assoc, ← Nat.pow_add, show n + 1 - m + (m - 1) = n by omega] at h2
    have h3 := Nat.mul_lt_mul_of_pos_right hx hp
    omega
/-- the part that is divided in a round -/
theorem seg_all {l : List Nat} {j m V : Nat} (hj : j + m + 1 ≤ l.length) (hd : val (l.drop (j + 1)) < V) (hlj : l[j]'(by omega) < B) (hV : V < B ^ m) : val ((l.drop j).take (m + 1)) = val (l.drop j) ∧ val (l.drop j) < B * V ∧ val (l.drop j) = l[j]'(by omega) + B * val (l.drop (j + 1)) ∧ val ((l.drop (j + m + 1))) = 0 := by
  have e1 := val_drop l j (by omega)
  have h1 : val (l.drop j) < B * V := by
    rw [e1]
    have : B * (val (l.drop (j + 1)) + 1) ≤ B * V := Nat.mul_le_mul_left _ hd
    rw [Nat.mul_add] at this; omega
  have e2 := val_take_drop (l.drop j) (m + 1) (by rw [List.length_drop]; omega)
  rw [List.drop_drop, ← Nat.add_assoc] at e2
  have h2 : B * V < B ^ (m + 1) := by rw [Nat.pow_succ, Nat.mul_comm]; exact Nat.mul_lt_mul_of_pos_right hV B_pos
  have h3 : val (l.drop (j + m + 1)) = 0 := by
    rcases Nat.eq_zero_or_pos (val (l.drop (j + m + 1))) with h | h
    · exact h
    · have : B ^ (m + 1) * 1 ≤ B ^ (m + 1) * val (l.drop (j + m + 1)) := Nat.mul_le_mul_left _ h
      omega
  refine ⟨?_, h1, e1, h3⟩
  rw [h3] at e2; omega
theorem seg_top {l : List Nat} {j m : Nat} (hm : 2 ≤ m) (hj : j + m + 1 ≤ l.length) : val ((l.drop j).take (m + 1)) = ((l[j + m]'(by omega) * B + l[j + m - 1]'(by omega)) * B + l[j + m - 2]'(by omega)) * B ^ (m - 2) + val ((l.drop j).take (m - 2)) := by
  have e1 := val_take_succ (l.drop j) m (by rw [List.length_drop]; omega)
  have e2 := val_take_succ (l.drop j) (m - 1) (by rw [List.length_drop]; omega)
  have e3 := val_take_succ (l.drop j) (m - 2) (by rw [List.length_drop]; omega)
  rw [show m - 1 + 1 = m by omega] at e2
  rw [show m - 2 + 1 = m - 1 by omega] at e3
  simp only [List.getElem_drop] at e1 e2 e3
  have i2 : j + (m - 1) = j + m - 1 := by omega
  have i3 : j + (m - 2) = j + m - 2 := by omega
  simp only [i2, i3] at e2 e3
  rw [e1, e2, e3]
  have p1 : B ^ (m - 1) = B ^ (m - 2) * B := by rw [← Nat.pow_succ]; congr 1; omega
  have p2 : B ^ m = B ^ (m - 2) * B * B := by rw [← p1, ← Nat.pow_succ]; congr 1; omega
  rw [p1, p2]
  generalize B ^ (m - 2) = P
  generalize l[j + m] = a
  generalize l[j + m - 1] = b
  generalize l[j + m - 2] = c
  have : ((a * B + b) * B + c) * P = P * B * B * a + P * B * b + P * c := by
    rw [Nat.add_mul, Nat.add_mul, Nat.add_mul]
    rw [show a * B * B * P = P * B * B * a by ac_rfl, show b * B * P = P * B * b by ac_rfl, Nat.mul_comm c P]
  omega
/-- the end of a round: the quotient's word, and what is left -/
theorem round_end {D0 Q V R R' x g D Bv : Nat} (hD : D0 = Q * V + R) (hDj : D = x + Bv * D0) (hU : x + Bv * R = g * V + R') : D = (g + Bv * Q) * V + R' := by
  subst hD; rw [hDj, Nat.mul_add, Nat.add_mul, Nat.mul_assoc]; omega
theorem two_div {x2 x1 top : Nat} (_h2 : x2 < 1000000000) (_h1 : x1 < 1000000000) (ht : 500000000 ≤ top) : ∃ g r : Nat, g = (x2 * 1000000000 + x1) / top ∧ g * top + r = x2 * 1000000000 + x1 ∧ r < top ∧
    ((x2 : Int) * 1000000000 + (x1 : Int)).tdiv (top : Int) = (g : Int) ∧ ((x2 : Int) * 1000000000 + (x1 : Int)).tmod (top : Int) = (r : Int) ∧ ((x2 : Int) * 1000000000 + (x1 : Int)) / (top : Int) = (g : Int) ∧ ((x2 : Int) * 1000000000 + (x1 : Int)) % (top : Int) = (r : Int) := by
  have hc : ((x2 : Int) * 1000000000 + (x1 : Int)) = ((x2 * 1000000000 + x1 : Nat) : Int) := by omega
  refine ⟨_, (x2 * 1000000000 + x1) % top, rfl, Nat.div_add_mod' _ _, Nat.mod_lt _ (by omega), ?_, ?_, ?_, ?_⟩
  · rw [hc]; rfl
  · rw [hc]; rfl
  · rw [hc]; rfl
  · rw [hc]; rfl
theorem seg_same {S' S : List Nat} {j m : Nat} (h : j + m + 1 ≤ S'.length) (hS'r : S'.drop (j + (m + 1)) = S.drop (j + (m + 1))) (hz : val (S.drop (j + m + 1)) = 0)  : val (S'.drop j) = val ((S'.drop j).take (m + 1)) := by
    have := val_take_drop (S'.drop j) (m + 1) (by rw [List.length_drop]; omega)
    rw [List.drop_drop, hS'r, ← Nat.add_assoc, hz, Nat.mul_zero, Nat.add_zero] at this
    exact this
theorem get_same {S u0 : List Nat} {j : Nat} (hSl : j < S.length) (hul : j < u0.length) (hSt : S.take (j + 1) = u0.take (j + 1)) : S[j] = u0[j] := by
    have h1 : (S.take (j + 1))[j]? = (u0.take (j + 1))[j]? := by rw [hSt]
    rw [List.getElem?_take_of_lt (by omega), List.getElem?_take_of_lt (by omega), List.getElem?_eq_getElem (by omega), List.getElem?_eq_getElem (by omega)] at h1
    exact Option.some.inj h1
theorem round_val {S S' u0 Q : List Nat} {j V d : Nat} (hSl : j < S.length) (hul : j < u0.length) (hQl : j < Q.length) (hI : val (u0.drop (j + 1)) = val (Q.drop (j + 1)) * V + val (S.drop (j + 1))) (hx : S[j] = u0[j]) (hv : val (S'.drop j) + d * V = val (S.drop j)) : val (u0.drop j) = val ((Q.set j d).drop j) * V + val (S'.drop j) := by
  have h1 := val_drop S j hSl
  have h2 := val_drop u0 j hul
  rw [drop_set Q j d hQl]
  have h3 : val (d :: Q.drop (j + 1)) = d + B * val (Q.drop (j + 1)) := rfl
  rw [h3]
  rw [h1, hx] at hv
  generalize B = Bv at *
  exact round_end hI h2 (by rw [Nat.add_comm (d * V)]; exact hv.symm)
theorem over_round {S S' u0 Q : List Nat} {j m V d U n : Nat} (hSl : S.length = n + 1) (hj : j + m ≤ n) (hS'l : S'.length = S.length) (hul : u0.length = n + 1) (hQl : j < Q.length) (hSt : S.take (j + 1) = u0.take (j + 1)) (hI : val (u0.drop (j + 1)) = val (Q.drop (j + 1)) * V + val (S.drop (j + 1))) (hS't : S'.take j = S.take j) (hS'r : S'.drop (j + (m + 1)) = S.drop (j + (m + 1))) (hz : val (S.drop (j + m + 1)) = 0) (hU : U = val (S.drop j)) (hv : val ((S'.drop j).take (m + 1)) + d * V = U) :
    S'.take j = u0.take j ∧ val (u0.drop j) = val ((Q.set j d).drop j) * V + val (S'.drop j) ∧ val (S'.drop j) = val ((S'.drop j).take (m + 1)) := by
  have e1 : S'.take j = u0.take j := by
    have := congrArg (List.take j) hSt
    rw [List.take_take, List.take_take, Nat.min_eq_left (Nat.le_succ j)] at this
    rw [hS't]; exact this
  have e2 : val (S'.drop j) = val ((S'.drop j).take (m + 1)) := seg_same (by omega) hS'r hz
  refine ⟨e1, ?_, e2⟩
  rw [← e2, hU] at hv
  exact round_val (by omega) (by omega) hQl hI (get_same (by omega) (by omega) hSt) hv
theorem digit_lt {d V U R : Nat} (hV : U < B * V) (h : R + d * V = U) : d < B := by
  rcases Nat.lt_or_ge d B with h1 | h1
  · exact h1
  · have := Nat.mul_le_mul_right V h1; omega
end Nt
end Go.Proofs.Ytilolnjbpokdnaa
namespace Go.Proofs.Ytilolnjbpokdnaa
open Go.RowKit
namespace Nt
theorem sub_step {V A C P X Y z c c' : Nat} (h : V + C = A + P * c) (hz : z + Y + c = X + B * c') : (V + P * z) + (C + P * Y) = (A + P * X) + P * B * c' := minus_step h hz
theorem only_setCell {a w : World} {g : Nat} (h : a.grownBy w (some g)) {i : Nat} (u : Value) : a.grownBy (w.setCell ⟨g, i, none⟩ u) (some g) :=
  ⟨h.os, h.tape, h.output, by simpa [World.setCell] using h.size, fun j hj hne => (Below.heap_setCell w ⟨g, i, none⟩ u j (by
    rintro rfl; exact hne rfl)).trans (h.block j hj hne)⟩
theorem N.grown {w w' : World} {b b2 o2 c2 n : Nat} (h : N w (.slice (some ⟨b2, o2, none⟩) (wlen n) c2) n) (hg : w.grownBy w' (some b)) (hne : b2 ≠ b) : N w' (.slice (some ⟨b2, o2, none⟩) (wlen n) c2) n := by
  obtain ⟨a, cap, hv, h1, h2, h0, h3⟩ := h
  cases hv
  refine ⟨_, c2, rfl, h1, h2, h0, fun i x hx => ?_⟩
  obtain ⟨b', o', ha, hc⟩ := h3 i x hx
  cases ha
  exact ⟨b2, o2, rfl, (World.cell?_of_block (hg.block b2 (World.block_lt_of_cell? w _ hc) (fun e => by cases e; exact hne rfl))).trans hc⟩
theorem drop_set_ge (l : List Nat) (i k z : Nat) : (l.set (i + k) z).drop i = (l.drop i).set k z := by
  rw [List.drop_set, if_neg (by omega)]; congr 1; omega
theorem take_set_ge (l : List Nat) (i k z : Nat) : (l.set (i + k) z).take i = l.take i := by
  rw [List.take_set_of_le (by omega)]
/-- the part of t words from i on -/
def seg (l : List Nat) (i t : Nat) : List Nat := (l.drop i).take t
theorem seg_set (l : List Nat) {i k : Nat} (h : i + k < l.length) (z : Nat) : val (seg (l.set (i + k) z) i (k + 1)) = val (seg l i k) + B ^ k * z := by
  unfold seg; rw [drop_set_ge, val_take_set _ _ _ (by rw [List.length_drop]; omega)]
theorem seg_succ (l : List Nat) {i k : Nat} (h : i + k < l.length) : val (seg l i (k + 1)) = val (seg l i k) + B ^ k * l[i + k] := by
  unfold seg; rw [val_take_succ _ _ (by rw [List.length_drop]; omega)]; simp
theorem seg_lt {l : List Nat} (h : Dg l) (i t : Nat) : val (seg l i t) < B ^ t := by
  have := val_lt ((h.drop i).take t)
  refine Nat.lt_of_lt_of_le this (Nat.pow_le_pow_right B_pos ?_)
  rw [List.length_take]; omega
theorem drop_get {l m : List Nat} {k : Nat} (h : l.drop k = m.drop k) (h1 : k < l.length) (h2 : k < m.length) : l[k] = m[k] ∧ l.drop (k + 1) = m.drop (k + 1) := by
  rw [List.drop_eq_getElem_cons h1, List.drop_eq_getElem_cons h2] at h
  exact List.cons.inj h
def TakePost (w : World) (b : Nat) (L : List Nat) (i t V n : Nat) (e : Ending) (w' : World) : Prop :=
  ∃ (L' : List Nat) (br : Nat), br ≤ 1 ∧ e = .returned (.bool (decide (val (seg L i t) < n * V))) ∧ L'.length = L.length ∧ Dg L' ∧ L'.take i = L.take i ∧ L'.drop (i + t) = L.drop (i + t) ∧ val (seg L' i t) + n * V = val (seg L i t) + B ^ t * br ∧ (br = 1 ↔ val (seg L i t) < n * V) ∧ Own w' b L' ∧ w.grownBy w' (some b)
def BackPost (w : World) (b : Nat) (L : List Nat) (i t V : Nat) (e : Ending) (w' : World) : Prop :=
  ∃ (L' : List Nat) (br : Nat), br ≤ 1 ∧ e = .returned (.tuple #[]) ∧ L'.length = L.length ∧ Dg L' ∧ L'.take i = L.take i ∧ L'.drop (i + t) = L.drop (i + t) ∧ val (seg L' i t) + B ^ t * br = val (seg L i t) + V ∧ Own w' b L' ∧ w.grownBy w' (some b)
theorem take_step {P V A n Vk c c' X vk z : Nat} (h : V + n * Vk = A + P * c) (hz : z + n * vk + c = X + B * c') : (V + P * z) + n * (Vk + P * vk) = (A + P * X) + P * B * c' := by
  have := sub_step (Y := n * vk) h hz
  rw [Nat.mul_add, show n * (P * vk) = P * (n * vk) by ac_rfl]
  exact this
theorem nmul_le {n v : Nat} (hn : n ≤ 1000000000) (hv : v < 1000000000) : 0 ≤ (n : Int) * (v : Int) ∧ (n : Int) * (v : Int) ≤ 999999999000000000 := by
  have h : n * v ≤ 1000000000 * 999999999 := Nat.mul_le_mul hn (by omega)
  have h2 : ((n * v : Nat) : Int) = (n : Int) * (v : Int) := Int.natCast_mul _ _
  omega
end Nt
end Go.Proofs.Ytilolnjbpokdnaa
namespace Go.Proofs.Ytilolnjbpokdnaa
open Go.RowKit
namespace Nt
def RowPost (w : World) (n : Nat) (e : Ending) (w' : World) : Prop := ∃ v, e = .returned v ∧ Row w' w.heap.size v (digs n) ∧ Below w.heap.size w w'
theorem Row.take {w : World} {base : Nat} {a : Option Addr} {c : Nat} {l : List Nat} (h : Row w base (.slice a l.length c) l) {k : Nat} (hk : k ≤ l.length) : Row w base (.slice a k c) (l.take k) := by
  obtain ⟨h1, h2⟩ := h
  have hlk : (l.take k).length = k := by rw [List.length_take]; omega
  refine ⟨by rw [wcs_length, Nat.mul_one], ?_⟩
  rw [hlk]
  rcases h2 with ⟨h2, h3⟩ | ⟨g, cap, cur, h2, hb, hg, hn, hm, hs, ht⟩
  · injection h2 with i1 i2 i3
    subst i1
    subst i3
    have : k = 0 := by omega
    subst this
    exact .inl ⟨rfl, rfl⟩
  · injection h2 with i1 i2 i3
    subst i1
    subst i3
    refine .inr ⟨g, c, cur, rfl, hb, hg, by omega, hm, hs, ?_⟩
    rw [Nat.mul_one] at ht ⊢
    rw [← wcs_take, ← ht, List.take_take, Nat.min_eq_left hk]
theorem N.ofRow {w : World} {base : Nat} {v : Value} {n : Nat} (h : Row w base v (digs n)) : N w v n := h.sl
end Nt
end Go.Proofs.Ytilolnjbpokdnaa
namespace Go.Proofs.Ytilolnjbpokdnaa
open Go.RowKit
namespace Nt
def OverPost (w : World) (x y : Nat) (e : Ending) (w' : World) : Prop := ∃ v1 v2, e = .returned (.tuple #[v1, v2]) ∧ N w' v1 (x / y) ∧ N w' v2 (x % y) ∧ Below w.heap.size w w'
theorem N.zero (w : World) : N w (.slice none 0 0) 0 := by unfold N; rw [wlen_zero, digs_zero]; exact Sl.nil w
theorem below_undrewN {B k : Nat} {a w : World} (h : Below B (a.drewN k) w) : Below B a w := ⟨h.os, h.tape, h.output, h.size, h.block⟩
end Nt
end Go.Proofs.Ytilolnjbpokdnaa
namespace Go.Proofs.Ytilolnjbpokdnaa
open Go.RowKit
namespace Nt
open _root_.Go.Proofs.Ytilolnjbpokdnaa.Nm (decS decv Digs Whl dch digv whl_eq decS_whl decS_digs decv_decS decS_length decv_append decS_small decS_big)
/-- the table that strconv reads -/
def Tab (w : World) : Prop := Lib.TabIs Try.prog w "internal/strconv.uint64pow10" .u64 Lib.pow10Tab
theorem Tab.ext {w w' : World} (h : Tab w) (hb : Below w.heap.size w w') : Tab w' := by
  cases hg : Try.prog.globalNamed "internal/strconv.uint64pow10" with
  | none => unfold Tab Lib.TabIs World.var? at h; rw [hg] at h; cases h
  | some g => exact Joins.tab_stays hg h hb (Nat.le_refl _)
def strOf (l : List UInt8) : ByteArray := ⟨l.toArray⟩
theorem strOf_size (l : List UInt8) : (strOf l).size = l.length := by simp [strOf, ByteArray.size]
end Nt
end Go.Proofs.Ytilolnjbpokdnaa
namespace Go.Proofs.Ytilolnjbpokdnaa
open Go.RowKit
namespace Nt
open _root_.Go.Proofs.Ytilolnjbpokdnaa.Nm (decS decv Digs Whl dch digv whl_eq decS_whl decS_digs decv_decS decS_length decv_append decS_small decS_big decv_snoc decv_lt)
theorem ext_list (s : ByteArray) (i n : Nat) : (s.extract i (i + n)).data.toList = (s.data.toList.drop i).take n := by
  simp only [ByteArray.data_extract, Array.toList_extract]
  rw [List.extract_eq_take_drop]; congr 1; omega
end Nt
end Go.Proofs.Ytilolnjbpokdnaa
namespace Go.Proofs.Ytilolnjbpokdnaa
open Go.RowKit
namespace Nt
open _root_.Go.Proofs.Ytilolnjbpokdnaa.Nm (decS decv Digs decv_decS decS_small cutS cutB cutL cutS_list cutS_size rF rQ badR largeR)
def TP.nat (n : Nat) : TP := ⟨fun w v => N w v n, fun _ _ _ hb h => h.ext hb⟩
theorem whole_digs {l : List UInt8} (h : wholeB l = true) : Digs l := by
  unfold wholeB at h
  simp only [Bool.and_eq_true] at h
  exact Nm.digs_of h.2
end Nt
end Go.Proofs.Ytilolnjbpokdnaa
