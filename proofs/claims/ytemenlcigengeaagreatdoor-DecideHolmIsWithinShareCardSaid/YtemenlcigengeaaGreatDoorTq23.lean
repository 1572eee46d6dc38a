/- Numbers as lists of digits to the base 10^9, the least one first: plain mathematics, no program stands in it. Slices of digits to the base 10^9 as numbers; blocks of words that the call owns. trim, order, small of the reference's natural numbers (digits to the base 10^9); append of a digit. -/
import Derived.Lib.Hide
import Derived.Test.YtemenlcigengeaaGreatDoorProg
import Derived.Test.YtemenlcigengeaaGreatDoorTq00
import Derived.IntWalk
import Derived.Laws.Rows
import Derived.Deep.OwnRows
import Derived.Deep.QuietTactic
import Derived.BigQuiet
namespace Go.Proofs.YtemenlcigengeaaGreatDoor
namespace Nt
/-- the base -/
def B : Nat := 1000000000
theorem B_eq : B = 1000000000 := rfl
theorem B_pos : 0 < B := by decide
def val : List Nat → Nat
  | [] => 0
  | x :: l => x + B * val l
def Dg (l : List Nat) : Prop := ∀ x ∈ l, x < B
theorem Dg.nil : Dg [] := fun _ h => by cases h
theorem Dg.cons {x : Nat} {l : List Nat} : Dg (x :: l) ↔ x < B ∧ Dg l := by
  constructor
  · intro h; exact ⟨h x (by simp), fun y hy => h y (by simp [hy])⟩
  · rintro ⟨h, k⟩ y hy
    rcases List.mem_cons.1 hy with rfl | hy
    · exact h
    · exact k y hy
theorem Dg.take {l : List Nat} (h : Dg l) (k : Nat) : Dg (l.take k) := fun x hx => h x (List.mem_of_mem_take hx)
theorem Dg.drop {l : List Nat} (h : Dg l) (k : Nat) : Dg (l.drop k) := fun x hx => h x (List.mem_of_mem_drop hx)
theorem Dg.get {l : List Nat} (h : Dg l) {k : Nat} (hk : k < l.length) : l[k] < B := h _ (List.getElem_mem hk)
theorem Dg.append {l m : List Nat} (h : Dg l) (k : Dg m) : Dg (l ++ m) := fun x hx => by
  rcases List.mem_append.1 hx with hx | hx
  · exact h x hx
  · exact k x hx
theorem Dg.set {l : List Nat} (h : Dg l) (k : Nat) {x : Nat} (hx : x < B) : Dg (l.set k x) := fun y hy => by
  rcases List.mem_or_eq_of_mem_set hy with hy | rfl
  · exact h y hy
  · exact hx
theorem Dg.zeros (n : Nat) : Dg (List.replicate n 0) := fun x hx => by rw [(List.mem_replicate.1 hx).2]; exact B_pos

theorem val_append (l m : List Nat) : val (l ++ m) = val l + B ^ l.length * val m := by
  induction l with
  | nil => simp [val]
  | cons x l ih => simp only [List.cons_append, val, ih, List.length_cons, Nat.pow_succ]; grind
theorem val_lt {l : List Nat} (h : Dg l) : val l < B ^ l.length := by
  induction l with
  | nil => simp [val]
  | cons x l ih =>
    have ⟨h1, h2⟩ := Dg.cons.1 h
    have h3 := ih h2
    simp only [val, List.length_cons, Nat.pow_succ]
    have : B * (val l + 1) ≤ B * B ^ l.length := Nat.mul_le_mul_left _ h3
    rw [Nat.mul_comm (B ^ l.length)]
    rw [Nat.mul_add] at this
    omega
theorem val_zeros (n : Nat) : val (List.replicate n 0) = 0 := by
  induction n with
  | zero => rfl
  | succ n ih => simp [List.replicate_succ, val, ih]
theorem val_take_drop (l : List Nat) (k : Nat) (h : k ≤ l.length) : val l = val (l.take k) + B ^ k * val (l.drop k) := by
  conv => lhs; rw [← List.take_append_drop k l]
  rw [val_append, List.length_take, Nat.min_eq_left h]
theorem val_take_succ (l : List Nat) (k : Nat) (h : k < l.length) : val (l.take (k + 1)) = val (l.take k) + B ^ k * l[k] := by
  rw [List.take_succ_eq_append_getElem h, val_append, List.length_take, Nat.min_eq_left (by omega)]; simp [val]
theorem val_drop (l : List Nat) (k : Nat) (h : k < l.length) : val (l.drop k) = l[k] + B * val (l.drop (k + 1)) := by
  rw [List.drop_eq_getElem_cons h]; rfl
theorem val_set (l : List Nat) (k y : Nat) (h : k < l.length) : val (l.set k y) + B ^ k * l[k] = val l + B ^ k * y := by
  have e : l.set k y = l.take k ++ y :: l.drop (k + 1) := List.set_eq_take_append_cons_drop.trans (by simp [h])
  rw [e, val_append, List.length_take, Nat.min_eq_left (by omega), val_take_drop l k (by omega), val_drop l k h]
  simp only [val]; grind
theorem take_set_succ (l : List Nat) (k y : Nat) (h : k < l.length) : (l.set k y).take (k + 1) = l.take k ++ [y] := by
  rw [List.take_succ_eq_append_getElem (by simpa using h)]; simp [List.take_set_of_le]
theorem val_take_set (l : List Nat) (k y : Nat) (h : k < l.length) : val ((l.set k y).take (k + 1)) = val (l.take k) + B ^ k * y := by
  rw [take_set_succ l k y h, val_append, List.length_take, Nat.min_eq_left (by omega)]; simp [val]
theorem drop_set (l : List Nat) (k y : Nat) (h : k < l.length) : (l.set k y).drop k = y :: l.drop (k + 1) := by
  rw [List.drop_eq_getElem_cons (by simpa using h)]; simp [List.drop_set_of_lt]

/-- the words of a number -/
def digs (n : Nat) : List Nat := if _h : n = 0 then [] else n % B :: digs (n / B)
  termination_by n
  decreasing_by exact Nat.div_lt_self (by omega) (by decide)
theorem digs_zero : digs 0 = [] := by unfold digs; simp
theorem digs_pos {n : Nat} (h : 0 < n) : digs n = n % B :: digs (n / B) := by rw [digs]; rw [dif_neg (by omega)]
theorem val_digs (n : Nat) : val (digs n) = n := by
  induction n using Nat.strongRecOn with
  | ind n ih =>
    by_cases h : n = 0
    · subst h; rw [digs_zero]; rfl
    · rw [digs_pos (by omega)]
      simp only [val]
      rw [ih _ (Nat.div_lt_self (by omega) (by decide))]
      exact Nat.mod_add_div n B
theorem digs_dg (n : Nat) : Dg (digs n) := by
  induction n using Nat.strongRecOn with
  | ind n ih =>
    by_cases h : n = 0
    · subst h; rw [digs_zero]; exact Dg.nil
    · rw [digs_pos (by omega)]
      exact Dg.cons.2 ⟨Nat.mod_lt _ B_pos, ih _ (Nat.div_lt_self (by omega) (by decide))⟩
def Can (l : List Nat) : Prop := ∀ h : l ≠ [], l.getLast h ≠ 0
theorem val_pos_of_can {l : List Nat} (h : Can l) (hl : l ≠ []) : 0 < val l := by
  induction l with
  | nil => exact absurd rfl hl
  | cons x l ih =>
    by_cases hn : l = []
    · subst hn
      have := h (by simp)
      simp at this
      simp only [val]; omega
    · have : 0 < val l := ih (fun h' => by have := h (by simp); rwa [List.getLast_cons h'] at this) hn
      have hB : 0 < B * val l := Nat.mul_pos B_pos this
      simp only [val]; omega
theorem digs_val {l : List Nat} (h : Dg l) (hc : Can l) : digs (val l) = l := by
  induction l with
  | nil => simp [val, digs_zero]
  | cons x l ih =>
    have ⟨h1, h2⟩ := Dg.cons.1 h
    have hp := val_pos_of_can hc (by simp)
    rw [digs_pos hp]
    have e1 : val (x :: l) % B = x := by simp only [val]; rw [Nat.add_mul_mod_self_left, Nat.mod_eq_of_lt h1]
    have e2 : val (x :: l) / B = val l := by simp only [val]; rw [Nat.add_mul_div_left _ _ B_pos, Nat.div_eq_of_lt h1, Nat.zero_add]
    rw [e1, e2]
    by_cases hn : l = []
    · subst hn; simp [val, digs_zero]
    · rw [ih h2 (fun h' => by have := hc (by simp); rwa [List.getLast_cons h'] at this)]
theorem digs_can (n : Nat) : Can (digs n) := by
  induction n using Nat.strongRecOn with
  | ind n ih =>
    by_cases h : n = 0
    · subst h; rw [digs_zero]; exact fun h => absurd rfl h
    · rw [digs_pos (by omega)]
      intro h'
      by_cases hz : n / B = 0
      · have : n < B := by
          rcases Nat.div_eq_zero_iff.1 hz with h | h
          · exact absurd h (by decide)
          · exact h
        simp only [hz, digs_zero, List.getLast_singleton]; rw [Nat.mod_eq_of_lt this]; exact h
      · have hne : digs (n / B) ≠ [] := by rw [digs_pos (Nat.pos_of_ne_zero hz)]; simp
        rw [List.getLast_cons hne]
        exact ih _ (Nat.div_lt_self (by omega) (by decide)) hne
/-- how many words a number has -/
def wlen (n : Nat) : Nat := (digs n).length
theorem wlen_zero : wlen 0 = 0 := by unfold wlen; rw [digs_zero]; rfl
theorem wlen_eq_zero {n : Nat} : wlen n = 0 ↔ n = 0 := by
  constructor
  · intro h
    have := List.length_eq_zero_iff.1 h
    have e := val_digs n
    rw [this] at e; exact e.symm
  · rintro rfl; exact wlen_zero
theorem lt_pow_wlen (n : Nat) : n < B ^ wlen n := by
  have := val_lt (digs_dg n); rwa [val_digs] at this
theorem pow_wlen_le {n : Nat} (h : 0 < n) : B ^ (wlen n - 1) ≤ n := by
  have hne : digs n ≠ [] := by rw [digs_pos h]; simp
  have hl : 0 < (digs n).length := List.length_pos_iff.2 hne
  have e := val_take_drop (digs n) ((digs n).length - 1) (by omega)
  rw [val_digs, val_drop _ _ (by omega)] at e
  have hc := digs_can n hne
  rw [List.getLast_eq_getElem] at hc
  have : 0 < B ^ ((digs n).length - 1) * ((digs n)[(digs n).length - 1] + B * val ((digs n).drop ((digs n).length - 1 + 1))) → True := fun _ => trivial
  have h1 : 1 ≤ (digs n)[(digs n).length - 1] + B * val ((digs n).drop ((digs n).length - 1 + 1)) := by omega
  have h2 := Nat.mul_le_mul_left (B ^ ((digs n).length - 1)) h1
  unfold wlen; omega
theorem wlen_le {n k : Nat} (h : n < B ^ k) : wlen n ≤ k := by
  by_cases h0 : n = 0
  · subst h0; rw [wlen_zero]; omega
  · have h1 := pow_wlen_le (n := n) (by omega)
    have h2 : B ^ (wlen n - 1) < B ^ k := Nat.lt_of_le_of_lt h1 h
    have h3 := (Nat.pow_lt_pow_iff_right (show 1 < B by decide)).1 h2
    omega
theorem wlen_mono {m n : Nat} (h : m ≤ n) : wlen m ≤ wlen n := wlen_le (Nat.lt_of_le_of_lt h (lt_pow_wlen n))
theorem wlen_mul (m n : Nat) : wlen (m * n) ≤ wlen m + wlen n := by
  apply wlen_le
  rw [Nat.pow_add]
  have h1 := lt_pow_wlen m
  have h2 := lt_pow_wlen n
  exact Nat.mul_lt_mul'' h1 h2
theorem lt_of_wlen {m n : Nat} (h : wlen m < wlen n) : m < n := by
  rcases Nat.lt_or_ge m n with h1 | h1
  · exact h1
  · have := wlen_mono h1; omega
/-- a list of words without zeros at its end is that of its number -/
theorem digs_take {l : List Nat} (h : Dg l) {k : Nat} (hk : k ≤ l.length) (hv : val (l.take k) = val l) (hz : ∀ j (hj : j < l.length), k = j + 1 → l[j] ≠ 0) : digs (val l) = l.take k := by
  rw [← hv]
  apply digs_val (h.take k)
  intro hne
  have hlen : (l.take k).length = k := by rw [List.length_take]; omega
  have hk0 : 0 < k := by have := List.length_pos_iff.2 hne; omega
  rw [List.getLast_eq_getElem]
  simp only [hlen, List.getElem_take]
  exact hz (k - 1) (by omega) (by omega)
theorem val_take_zero {l : List Nat} {k : Nat} (hk : k < l.length) (hv : val (l.take (k + 1)) = val l) (hz : l[k] = 0) : val (l.take k) = val l := by
  rw [← hv, val_take_succ l k hk, hz]; simp
/-- the first word that differs, from the top, decides -/
theorem val_lt_of {l m : List Nat} (hl : Dg l) {j : Nat} (h1 : j < l.length) (h2 : j < m.length) (hd : l.drop (j + 1) = m.drop (j + 1)) (h : l[j] < m[j]) : val l < val m := by
  rw [val_take_drop l j (by omega), val_take_drop m j (by omega), val_drop l j h1, val_drop m j h2, hd]
  have h3 := val_lt (hl.take j)
  rw [List.length_take, Nat.min_eq_left (by omega)] at h3
  generalize B ^ j = P at *
  generalize val (m.drop (j + 1)) = D at *
  have h4 : P * (l[j] + B * D + 1) ≤ P * (m[j] + B * D) := Nat.mul_le_mul_left _ (by omega)
  rw [Nat.mul_add, Nat.mul_one] at h4
  omega
def cmpN (x y : Nat) : Int := if x < y then -1 else if y < x then 1 else 0
theorem cmpN_lt {x y : Nat} (h : x < y) : cmpN x y = -1 := by unfold cmpN; rw [if_pos h]
theorem cmpN_gt {x y : Nat} (h : y < x) : cmpN x y = 1 := by unfold cmpN; rw [if_neg (by omega), if_pos h]
theorem cmpN_eq {x y : Nat} (h : x = y) : cmpN x y = 0 := by subst h; unfold cmpN; simp
theorem cmpN_zero {x y : Nat} : cmpN x y = 0 ↔ x = y := by unfold cmpN; split <;> (try split) <;> omega
theorem cmpN_neg {x y : Nat} : cmpN x y < 0 ↔ x < y := by unfold cmpN; split <;> (try split) <;> omega
theorem digs_inj {x y : Nat} (h : digs x = digs y) : x = y := by rw [← val_digs x, h, val_digs]
/-- a word of a list, or 0 behind its end -/
def wd (l : List Nat) (k : Nat) : Nat := l.getD k 0
theorem wd_get {l : List Nat} {k : Nat} (h : k < l.length) : wd l k = l[k] := by
  unfold wd; rw [List.getD_eq_getElem?_getD, List.getElem?_eq_getElem h]; rfl
theorem wd_past {l : List Nat} {k : Nat} (h : l.length ≤ k) : wd l k = 0 := by
  unfold wd; rw [List.getD_eq_getElem?_getD, List.getElem?_eq_none h]; rfl
theorem val_take_wd (l : List Nat) (k : Nat) : val (l.take (k + 1)) = val (l.take k) + B ^ k * wd l k := by
  by_cases hk : k < l.length
  · rw [val_take_succ l k hk, wd_get hk]
  · rw [List.take_of_length_le (by omega), List.take_of_length_le (by omega), wd_past (by omega)]; simp
/-- a step of the sum -/
theorem add_step {P V A C c x y : Nat} (h : V + P * c = A + C) : (V + P * ((c + x + y) % B)) + P * B * ((c + x + y) / B) = (A + P * x) + (C + P * y) := by
  have e : P * ((c + x + y) % B) + P * B * ((c + x + y) / B) = P * (c + x + y) := by
    rw [Nat.mul_assoc, ← Nat.mul_add, Nat.mod_add_div]
  have e2 : P * (c + x + y) = P * c + P * x + P * y := by rw [Nat.mul_add, Nat.mul_add]
  omega
end Nt
end Go.Proofs.YtemenlcigengeaaGreatDoor
namespace Go.Proofs.YtemenlcigengeaaGreatDoor
open Go.RowKit
namespace Nt
def wc (x : Nat) : Value := .int .i64 (x : Int)
def wcs (l : List Nat) : List Value := l.map wc
theorem wcs_length (l : List Nat) : (wcs l).length = l.length := by simp [wcs]
theorem wcs_get {l : List Nat} {k : Nat} (h : k < l.length) : (wcs l)[k]? = some (.int .i64 (l[k] : Int)) := by simp [wcs, wc, h]
theorem wcs_take (l : List Nat) (k : Nat) : (wcs l).take k = wcs (l.take k) := by simp [wcs, List.map_take]
theorem wcs_one (l : List Nat) : ∀ u ∈ wcs l, u.oneCell' = true := by
  intro u hu; simp only [wcs, List.mem_map] at hu; obtain ⟨c, _, rfl⟩ := hu; rfl
/-- The slice value v reads as the number n. -/
def N (w : World) (v : Value) (n : Nat) : Prop := Sl w v (wlen n) (wcs (digs n))
theorem N.ext {w w' : World} {v : Value} {n : Nat} (h : N w v n) (hb : Below w.heap.size w w') : N w' v n := Sl.ext h hb
theorem N.drew {w : World} {v : Value} {n : Nat} (h : N w v n) : N w.drew v n := h
theorem N.open_ {w : World} {v : Value} {n : Nat} (h : N w v n) : ∃ a c, v = .slice a (digs n).length c ∧ Sl w (.slice a (digs n).length c) (digs n).length (wcs (digs n)) := by
  obtain ⟨a, cap, rfl, h1⟩ := id h; exact ⟨a, cap, rfl, h⟩
theorem sl_addr {w : World} {a : Option Addr} {n c : Nat} {cs : List Value} (h : Sl w (.slice a n c) n cs) {k : Nat} {x : Value} (hk : cs[k]? = some x) : ∃ b o, a = some ⟨b, o, none⟩ ∧ w.cell? ⟨b, o + k, none⟩ = some x := by
  obtain ⟨a', cap, hv, _, _, _, h3⟩ := h
  cases hv
  exact h3 k x hk
theorem sl_caps {w : World} {a : Option Addr} {n c : Nat} {cs : List Value} (h : Sl w (.slice a n c) n cs) : n ≤ c ∧ c ≤ 9223372036854775807 := by
  obtain ⟨a', cap, hv, h1, h2, _, h3⟩ := h
  cases hv
  unfold maxLen at h2; exact ⟨h1, h2⟩
theorem sl_take {w : World} {a : Option Addr} {n c : Nat} {cs : List Value} (h : Sl w (.slice a n c) n cs) {k : Nat} (hk : k ≤ n) : Sl w (.slice a k c) k (cs.take k) := by
  obtain ⟨a', cap, hv, h1, h2, h0, h3⟩ := h
  cases hv
  refine ⟨a, c, rfl, by omega, h2, h0, fun i x hx => h3 i x ?_⟩
  rw [List.getElem?_take] at hx
  split at hx
  · exact hx
  · cases hx
/-- a call that leaves the world as it is, and returns a number -/
def TrimPost (w : World) (n : Nat) (e : Ending) (w' : World) : Prop := ∃ v, e = .returned v ∧ N w v n ∧ w = w'
/-- a call that returns a number, and makes memory -/
def NPost (w : World) (n : Nat) (e : Ending) (w' : World) : Prop := ∃ v, e = .returned v ∧ N w' v n ∧ Below w.heap.size w w'

/-- the block b is the call's own row of words, with whatever spare cells behind them -/
def Own (w : World) (b : Nat) (l : List Nat) : Prop := ∃ cur rest, w.heap[b]? = some (.cells cur 3 (0, 0)) ∧ cur.toList = wcs l ++ rest
theorem Own.lt {w : World} {b : Nat} {l : List Nat} (h : Own w b l) : b < w.heap.size := by
  obtain ⟨cur, rest, h, _⟩ := h
  rcases Nat.lt_or_ge b w.heap.size with hlt | hge
  · exact hlt
  · rw [Array.getElem?_eq_none hge] at h; cases h
theorem Own.cell {w : World} {b : Nat} {l : List Nat} (h : Own w b l) {i : Nat} (hi : i < l.length) : w.cell? ⟨b, i, none⟩ = some (.int .i64 (l[i] : Int)) := by
  obtain ⟨cur, rest, h, hc⟩ := h
  have := cell_of_row w b i _ _ (0, 0) h
  rw [this, ← Array.getElem?_toList, hc, List.getElem?_append_left (by rw [wcs_length]; exact hi), wcs_get hi]
theorem Own.frozen {w : World} {b : Nat} {l : List Nat} (h : Own w b l) (i : Nat) : w.frozen? ⟨b, i, none⟩ = false := by
  obtain ⟨cur, rest, h, hc⟩ := h; simp [World.frozen?, h]
theorem Own.set {w : World} {b : Nat} {l : List Nat} (h : Own w b l) {i : Nat} (hi : i < l.length) (x : Nat) : Own (w.setCell ⟨b, i, none⟩ (.int .i64 (x : Int))) b (l.set i x) := by
  obtain ⟨cur, rest, h, hc⟩ := h
  refine ⟨cur.setIfInBounds i (.int .i64 (x : Int)), rest, ?_, ?_⟩
  · simp only [World.setCell, Array.getElem?_modify, h]; simp
  · rw [Array.toList_setIfInBounds, hc, List.set_append_left _ _ (by rw [wcs_length]; exact hi)]
    simp [wcs, List.map_set, wc]
theorem Own.set' {w : World} {b : Nat} {l : List Nat} (h : Own w b l) {i : Nat} (hi : i < l.length) (x : Nat) {z : Int} (hz : z = (x : Int)) : Own (w.setCell ⟨b, i, none⟩ (.int .i64 z)) b (l.set i x) := by
  subst hz; exact h.set hi x
theorem Hid.len_set {l : List Nat} {n : Nat} (h : Hid (l.length = n)) (k x : Nat) : Hid ((l.set k x).length = n) := by
  have : (l.set k x).length = n := by rw [List.length_set]; exact h.out
  exact this
theorem Hid.dg_set {l : List Nat} (h : Hid (Dg l)) (k : Nat) {x : Nat} (hx : x < B) : Hid (Dg (l.set k x)) := Dg.set h.out k hx
theorem Own.drew {w : World} {b : Nat} {l : List Nat} (h : Own w b l) : Own w.drew b l := h
theorem Own.keep {w w' : World} {b : Nat} {l : List Nat} (h : Own w b l) (hb : w'.heap[b]? = w.heap[b]?) : Own w' b l := by
  obtain ⟨cur, rest, h, hc⟩ := h; exact ⟨cur, rest, hb.trans h, hc⟩
theorem Own.alloc {w : World} {b : Nat} {l : List Nat} (h : Own w b l) (o : Obj) : Own (w.alloc o) b l := h.keep (Below.heap_alloc w o b h.lt)
theorem Own.ext {w w' : World} {b : Nat} {l : List Nat} (h : Own w b l) (hb : Below w.heap.size w w') : Own w' b l := h.keep (hb.block b h.lt)
theorem Own.far {w : World} {b : Nat} {l : List Nat} (h : Own w b l) {p : Addr} (hp : b ≠ p.block) (u : Value) : Own (w.setCell p u) b l := h.keep (Below.heap_setCell w p u b hp)
theorem Own.sl {w : World} {b : Nat} {l : List Nat} (h : Own w b l) {c : Nat} (h1 : l.length ≤ c) (h2 : c ≤ maxLen) : Sl w (.slice (some ⟨b, 0, none⟩) l.length c) l.length (wcs l) := by
  refine ⟨_, c, rfl, h1, h2, (fun h => by cases h), fun i x hx => ⟨b, 0, rfl, ?_⟩⟩
  have hi : i < l.length := by have := (List.getElem?_eq_some_iff.1 hx).1; rwa [wcs_length] at this
  rw [wcs_get hi] at hx
  rw [Nat.zero_add, h.cell hi, hx]
theorem Own.new (w : World) (l : List Nat) : Own (w.alloc (.cells (wcs l).toArray 3)) w.heap.size l := ⟨_, [], heap_alloc_new w _, by simp⟩
/-- what append leaves -/
theorem Own.ofRow {w : World} {base n : Nat} {v : Value} {l : List Nat} (h : w.ownsRow base 3 1 v n (wcs l)) (hn : 0 < n) : ∃ g cap, v = .slice (some ⟨g, 0, none⟩) n cap ∧ base ≤ g ∧ n ≤ cap ∧ cap ≤ maxLen ∧ Own w g l := by
  obtain ⟨h1, ⟨_, h2⟩ | ⟨g, cap, cur, rfl, hb, hg, hn, hm, hs, ht⟩⟩ := h
  · omega
  · refine ⟨g, cap, rfl, hb, hn, hm, cur, cur.toList.drop (n * 1), hg, ?_⟩
    rw [← ht, List.take_append_drop]
theorem i64_info : (Tryz.prog.info? 3).map (fun i => (i.zero, i.size, i.bytes)) = some (some (.int .i64 0), 1, 8) := by kernel_rfl
theorem madeCells_words (n : Nat) : madeCells #[Value.int .i64 0] n = (wcs (List.replicate n 0)).toArray := by
  apply Array.ext
  · simp [size_madeCells, wcs]
  · intro i h1 h2; simp [madeCells, wcs, wc, Nat.mod_one]
/-- make([]uint32, n): a new row of zeros; the world goes on under a name -/
theorem wpList_make_words {w : World} {ops : Array Oper} {rest : List Oper} {o : Oper} {a : Act} {Q : Exit → Act → World → Prop}
    (hg : o.guard = none) (l c : Operand) (hop : o.op = Op.makeSlice 112 l c) {z : Int} (n : Nat) (hl : a.eval l = .int .i64 z) (hc : a.eval c = .int .i64 z) (hz : z = (n : Int)) (hb : n ≤ 10000000000)
    (h : ∀ W, Own W w.heap.size (List.replicate n 0) → Below w.heap.size w W → W.heap.size = w.heap.size + 1 → wpList Tryz.prog ops Q rest (a.put o.dst (.slice (some ⟨w.heap.size, 0, none⟩) n n)) W) :
    wpList Tryz.prog ops Q (o :: rest) a w := by
  subst hz
  obtain ⟨i, hi, hz0, hz1, hz2⟩ := info_parts i64_info
  refine wpList_make_row w hg l c _ hop 3 i _ Tryz.underlying112 hi hz0 hz1 rfl _ _ n hl hc (by rw [hz2]; omega) (by omega) ?_
  rw [madeCells_words]
  exact h _ (Own.new _ _) (by go_grown) (by simp)
end Nt
end Go.Proofs.YtemenlcigengeaaGreatDoor
namespace Go.Proofs.YtemenlcigengeaaGreatDoor
open Go.RowKit
namespace Nt
/-- a row of digits of the call's own -/
def Row (w : World) (base : Nat) (v : Value) (l : List Nat) : Prop := w.ownsRow base 3 1 v l.length (wcs l)
theorem Row.nil (w : World) (base : Nat) : Row w base (.slice none 0 0) [] := ⟨by simp [wcs], .inl ⟨rfl, rfl⟩⟩
theorem Row.ext {w w' : World} {base : Nat} {v : Value} {l : List Nat} (h : Row w base v l) (hb : Below w.heap.size w w') : Row w' base v l := ownsRow_ext h hb
theorem Row.sl {w : World} {base : Nat} {v : Value} {l : List Nat} (h : Row w base v l) : Sl w v l.length (wcs l) := Sl.ofOwn h
theorem Row.own {w : World} {base : Nat} {v : Value} {l : List Nat} (h : Row w base v l) (hn : 0 < l.length) : ∃ g cap, v = .slice (some ⟨g, 0, none⟩) l.length cap ∧ base ≤ g ∧ l.length ≤ cap ∧ cap ≤ maxLen ∧ Own w g l := Own.ofRow h hn
/-- append(out, y): the digit lies in a new block -/
theorem wpList_append_wd {w : World} {ops : Array Oper} {rest : List Oper} {o : Oper} {a : Act} {Q : Exit → Act → World → Prop} (hgd : o.guard = none) (s x : Operand)
    (ho : o.op = .call { callee := .builtin .append, args := #[s, x], argTypes := #[112, 112] })
    (base : Nat) {v : Value} {l : List Nat} (hs : a.eval s = v) (hown : Row w base v l) {z : Int} (y : Nat) (hx : a.eval x = .slice (some ⟨w.heap.size, 0, none⟩) 1 1) (hz : z = (y : Int))
    (hn : l.length ≤ 10000000000) (hbase : base ≤ w.heap.size)
    (h : ∀ v' w', Row w' base v' (l ++ [y]) → Below base w w' → wpList Tryz.prog ops Q rest (a.put o.dst v') w') : wpList Tryz.prog ops Q (o :: rest) a (w.alloc (.cells #[.int .i64 z] 3)) := by
  subst hz
  refine wpList_append_sl hgd s x _ ho base 3 Tryz.underlying112 i64_info rfl (by decide) hs (ownsRow_ext hown (ext_alloc _ _)) hx (Sl.new w #[.int .i64 (y : Int)] _ 1 1 (by omega) (by decide)) rfl (by intro u hu; simp at hu; subst hu; rfl) (by unfold maxLen; omega) (by omega) (by simp; omega) (fun v' w' h1 h2 _ => ?_)
  refine h v' w' ?_ ?_
  · unfold Row
    rw [List.length_append, List.length_singleton]
    have e : wcs (l ++ [y]) = wcs l ++ [.int .i64 (y : Int)] := by simp [wcs, wc]
    rw [e]; exact h1
  · exact ((ext_alloc w _).mono hbase).trans (Below.grown (Below.refl base _) h2 (by simp; omega) (fun k hk => (World.ownsRow.lt hown k hk).1))
set_option maxHeartbeats 2000000 in
theorem trim_at (l : List Nat) (hd : Dg l) (v : Value) (w : World) (hs : Sl w v l.length (wcs l)) : Calls Tryz.prog 111 #[v] w (TrimPost w (val l)) := by
  obtain ⟨a, c, rfl, hs0⟩ := id hs
  obtain ⟨hc1, hc2⟩ := sl_caps hs
  have HD := Lib.hid hd
  clear hd hs0
  go_enter Tryz.func111, Tryz.ntmps111
  go_wp2
  go_loop [3] (fun t => ∃ k : Nat, k ≤ l.length ∧ t = .int .i64 k ∧ Hid (val (l.take k) = val l)) (fun t => (intOf t).toNat)
  case atStart => exact ⟨l.length, by omega, rfl, by have : val (l.take l.length) = val l := by rw [List.take_length]
                                                     exact this⟩
  case round =>
    obtain ⟨k, hk, rfl, HV⟩ := hrel
    cases k with
    | zero =>
      go_wp2
      go_ret
      refine ⟨_, rfl, ?_, rfl⟩
      have e := digs_take HD.out (k := 0) (by omega) HV.out (fun j hj h => by omega)
      have hs2 := sl_take hs (k := 0) (by omega)
      unfold N wlen; rw [e]; simpa [wcs] using hs2
    | succ j =>
      have hj : j < l.length := by omega
      obtain ⟨b, o, rfl, e0⟩ := sl_addr hs (wcs_get hj)
      by_cases hz : l[j] = 0
      · have HV2 := Lib.hid (val_take_zero hj HV.out hz)
        rw [hz] at e0
        clear hz
        go_wp2
        go_round
        case rel => exact ⟨j, by omega, by go_num, HV2⟩
        case measure => simp [intOf]
      · have hne : ((l[j] : Int) == 0) = false := by simp; omega
        have HZ := Lib.hid hz
        clear hz
        go_wp2
        go_ret
        refine ⟨_, rfl, ?_, rfl⟩
        have e := digs_take HD.out (k := j + 1) (by omega) HV.out (fun i hi h => by obtain rfl : i = j := (by omega); exact HZ.out)
        have hs2 := sl_take hs (k := j + 1) (by omega)
        unfold N wlen; rw [e, List.length_take, Nat.min_eq_left (by omega), ← wcs_take]; exact hs2
theorem digs_succ {m : Nat} (h : 0 < m) (l : List Nat) : l ++ digs m = (l ++ [m % B]) ++ digs (m / B) := by rw [digs_pos h]; simp
set_option maxHeartbeats 2000000 in
theorem small_at (n : Nat) (hn : n < 9223372036854775808) (w : World) : Calls Tryz.prog 113 #[.int .i64 (n : Int)] w (NPost w n) := by
  go_enter Tryz.func113, Tryz.ntmps113
  go_wp2
  go_loopw [0, 3] (fun mv ov wr => ∃ (m : Nat) (l : List Nat), mv = .int .i64 m ∧ m < 9223372036854775808 ∧ Hid (digs n = l ++ digs m) ∧ Row wr w.heap.size ov l ∧ Below w.heap.size w wr) (fun mv _ _ => (intOf mv).toNat)
  case atStart => exact ⟨n, [], rfl, hn, by have : digs n = [] ++ digs n := rfl
                                            exact this, Row.nil _ _, Below.refl _ _⟩
  case round =>
    obtain ⟨m, l, rfl, hm, HD, hr, hb⟩ := hrel
    have hle := hb.size
    have hll : l.length ≤ 10000000000 := by
      have h1 : (digs n).length ≤ 3 := wlen_le (Nat.lt_of_lt_of_le hn (by decide))
      rw [HD.out, List.length_append] at h1; omega
    by_cases h0 : 0 < m
    · have HD2 : Hid (digs n = (l ++ [m % 1000000000]) ++ digs (m / 1000000000)) := by
        have : digs n = (l ++ [m % 1000000000]) ++ digs (m / 1000000000) := by rw [HD.out]; exact digs_succ h0 l
        exact this
      go_wp2_with (at_builtin; refine wpList_append_wd rfl _ _ rfl w.heap.size rfl hr (m % 1000000000) rfl (by omega) hll hle ?_; intro v' w' hr' hb')
      go_roundw
      case rel => exact ⟨m / 1000000000, _, by go_num, by omega, HD2, hr', hb.trans hb'⟩
      case measure => simp [intOf]; omega
    · obtain rfl : m = 0 := by omega
      go_wp2
      go_ret
      refine ⟨_, rfl, ?_, hb⟩
      have e := HD.out
      rw [digs_zero, List.append_nil] at e
      have h1 := hr.sl
      rw [← e] at h1
      exact h1
def QPost (w : World) (v : Value) (e : Ending) (w' : World) : Prop := e = .returned v ∧ ∃ k, w' = w.drewN k
set_option maxHeartbeats 4000000 in
theorem order_at (x y : Nat) (v u : Value) (w : World) (hx : N w v x) (hy : N w u y) : Calls Tryz.prog 87 #[v, u] w (QPost w (.int .i64 (cmpN x y))) := by
  obtain ⟨a, c, rfl, s1⟩ := hx.open_
  obtain ⟨a', c', rfl, s2⟩ := hy.open_
  obtain ⟨p1, p2⟩ := sl_caps s1
  obtain ⟨q1, q2⟩ := sl_caps s2
  have HX := Lib.hid (digs_dg x)
  have HY := Lib.hid (digs_dg y)
  clear hx hy
  by_cases hlen : (digs x).length = (digs y).length
  · have HE : Hid ((digs x).drop (digs x).length = (digs y).drop (digs x).length) := by
      have : (digs x).drop (digs x).length = (digs y).drop (digs x).length := by rw [List.drop_length, hlen, List.drop_length]
      exact this
    rw [← hlen] at s2 q1
    have HL := Lib.hid hlen
    have hb : (((digs x).length : Int) != ((digs x).length : Int)) = false := by simp
    rw [← hlen]
    clear hlen
    go_enter Tryz.func87, Tryz.ntmps87
    go_wp2
    go_loopw [5] (fun i wr => ∃ k m : Nat, k ≤ (digs x).length ∧ wr = w.drewN m ∧ i = .int .i64 ((k : Int) - 1) ∧ Hid ((digs x).drop k = (digs y).drop k)) (fun i _ => (intOf i + 1).toNat)
    case atStart => exact ⟨_, 0, Nat.le_refl _, rfl, rfl, HE⟩
    case round =>
      obtain ⟨k, m, hk, rfl, rfl, HK⟩ := hrel
      cases k with
      | zero =>
        go_wp2
        go_ret
        exact ⟨ret_int (cmpN_eq (digs_inj (by simpa using HK.out))).symm, _, rfl⟩
      | succ j =>
        have hj : j < (digs x).length := by omega
        have hj' : j < (digs y).length := by rw [← HL.out]; exact hj
        obtain ⟨b, o, rfl, e0⟩ := sl_addr s1 (wcs_get hj)
        obtain ⟨b', o', rfl, f0⟩ := sl_addr s2 (wcs_get hj')
        have HLT := Lib.hid (val_lt_of HX.out hj hj' HK.out)
        have HGT := Lib.hid (val_lt_of HY.out hj' hj HK.out.symm)
        have HEQ : Hid ((digs x)[j] = (digs y)[j] → (digs x).drop j = (digs y).drop j) := by
          have : (digs x)[j] = (digs y)[j] → (digs x).drop j = (digs y).drop j := fun h => by rw [List.drop_eq_getElem_cons hj, List.drop_eq_getElem_cons hj', h, HK.out]
          exact this
        rw [show (((j + 1 : Nat) : Int) - 1) = (j : Int) by omega]
        generalize (digs x)[j] = X at *
        generalize (digs y)[j] = Y at *
        rcases Nat.lt_trichotomy X Y with h | h | h
        · have HR := Lib.hid (HLT.out h)
          have hb2 : ((X : Int) != (Y : Int)) = true := by simp; omega
          clear HLT HGT HEQ
          go_wp2
          go_quiet (fail)
          go_wp2
          go_quiet (fail)
          go_wp2
          go_ret
          exact ⟨ret_int (cmpN_lt (by simpa [val_digs] using HR.out)).symm, _, by rw [World.drewN_drewN, World.drewN_drewN]⟩
        · subst h
          have HR := Lib.hid (HEQ.out rfl)
          have hb2 : ((X : Int) != (X : Int)) = false := by simp
          clear HLT HGT HEQ
          go_wp2
          go_quiet (fail)
          go_wp2
          go_roundw
          case rel => exact ⟨j, _, by omega, rfl, rfl, HR⟩
          case measure => simp [intOf]
        · have HR := Lib.hid (HGT.out h)
          have hb2 : ((X : Int) != (Y : Int)) = true := by simp; omega
          clear HLT HGT HEQ
          go_wp2
          go_quiet (fail)
          go_wp2
          go_quiet (fail)
          go_wp2
          go_ret
          exact ⟨ret_int (cmpN_gt (by simpa [val_digs] using HR.out)).symm, _, by rw [World.drewN_drewN, World.drewN_drewN]⟩
  · have HL : Hid (∀ b, decide ((digs x).length < (digs y).length) = b → cmpN x y = if b then -1 else 1) := by
      have : ∀ b, decide ((digs x).length < (digs y).length) = b → cmpN x y = if b then -1 else 1 := fun b hb => by
        subst hb
        by_cases h : (digs x).length < (digs y).length
        · rw [cmpN_lt (lt_of_wlen h)]; simp [h]
        · rw [cmpN_gt (lt_of_wlen (show wlen y < wlen x by unfold wlen; omega))]; simp [h]
      exact this
    have hb : (((digs x).length : Int) != ((digs y).length : Int)) = true := by simp; omega
    by_cases h : (digs x).length < (digs y).length
    · have HR := Lib.hid (HL.out true (decide_eq_true h))
      clear hlen
      go_enter Tryz.func87, Tryz.ntmps87
      go_wp2
      go_ret
      exact ⟨ret_int HR.out.symm, 0, rfl⟩
    · have HR := Lib.hid (HL.out false (decide_eq_false h))
      clear hlen
      go_enter Tryz.func87, Tryz.ntmps87
      go_wp2
      go_ret
      exact ⟨ret_int HR.out.symm, 0, rfl⟩
end Nt
end Go.Proofs.YtemenlcigengeaaGreatDoor
