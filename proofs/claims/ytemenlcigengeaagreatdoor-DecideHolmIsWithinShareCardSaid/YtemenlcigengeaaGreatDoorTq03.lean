/- Pairs of package decide: two rows of the call's own that grow, in an array of two. Numbers as lists of words of 32 bits, the least one first: plain mathematics, no program stands in it. Slices of words of 32 bits as numbers; blocks of words that the call owns. -/
import Derived.Test.YtemenlcigengeaaGreatDoorProg
import Derived.Test.YtemenlcigengeaaGreatDoorTq00
import Derived.Maps.AppendAt
import Derived.Deep.RegionLaw
import Derived.Deep.Cut
import Derived.Deep.QuietTactic
import Derived.BigQuiet
import Derived.BigRegion
import Derived.IntWalk
import Derived.Lib.Hide
import Derived.Laws.Rows
import Derived.Deep.OwnRows
namespace Go.Proofs.YtemenlcigengeaaGreatDoor
open Go.RowKit

def bcs (l : List Bool) : List Value := l.map Value.bool
theorem bool_info : (Tryz.prog.info? 4).map (fun i => (i.zero, i.size, i.bytes)) = some (some (.bool false), 1, 1) := by kernel_rfl
/-- two rows of the call's own, in an array of two -/
structure PW (wr : World) (bW base : Nat) (v0 v1 : Value) (l0 l1 : List Bool) : Prop where
  box : Box wr bW #[v0, v1]
  fre : Fre wr bW
  own0 : wr.ownsRow base 4 1 v0 l0.length (bcs l0)
  own1 : wr.ownsRow base 4 1 v1 l1.length (bcs l1)
  apart : ∀ k, v0.ownBlock = some k → v1.ownBlock = some k → False
  low : bW < base
theorem PW.ext {wr w' : World} {bW base : Nat} {v0 v1 : Value} {l0 l1 : List Bool} (h : PW wr bW base v0 v1 l0 l1) (hb : Below wr.heap.size wr w') : PW w' bW base v0 v1 l0 l1 :=
  ⟨h.box.ext hb, h.fre.ext h.box hb, ownsRow_ext h.own0 hb, ownsRow_ext h.own1 hb, h.apart, h.low⟩
theorem fre_set {w : World} {b : Nat} (h : Fre w b) (p : Addr) (u : Value) : Fre (w.setCell p u) b := fun j => by simp; exact h j
theorem ownsRow_far {w : World} {base e size n : Nat} {v : Value} {xs : List Value} (h : w.ownsRow base e size v n xs) {p : Addr} (hp : p.block < base) (u : Value) : (w.setCell p u).ownsRow base e size v n xs := by
  refine h.kept (row := some p.block) ⟨rfl, rfl, rfl, by simp [World.setCell], fun k hk hne => Below.heap_setCell w p u k (fun e => hne (by rw [e]))⟩ ?_
  cases e : v.ownBlock with
  | none => exact .inl rfl
  | some k => exact .inr (fun e' => by cases e'; have := (h.lt _ e).1; omega)
theorem fre_grown {w w' : World} {b : Nat} {row : Option Nat} (h : Fre w b) (hb : b < w.heap.size) (hg : w.grownBy w' row) (hr : ∀ q, row = some q → q ≠ b) : Fre w' b := fun j => by
  have e := hg.block b hb (fun e => hr b e.symm rfl)
  have h1 := h j
  unfold World.frozen? at h1 ⊢
  simp only [e] at *
  exact h1
theorem box_grown {w w' : World} {b : Nat} {A : Array Value} {row : Option Nat} (hg : w.grownBy w' row) (h : Box w b A) (hr : ∀ q, row = some q → q ≠ b) : Box w' b A :=
  ⟨Nat.lt_of_lt_of_le h.1 hg.size, fun j => (World.cell?_of_block (w := w) (hg.block b h.1 (fun e => hr b e.symm rfl))).trans (h.2 j)⟩
/-- what a push finds in the array of two -/
theorem PW.at {w w' : World} {bW base : Nat} {v0 v1 v : Value} {l0 l1 : List Bool} (h : PW w bW base v0 v1 l0 l1) (hv : v = v0 ∨ v = v1) (hg : w.grownBy w' v.ownBlock) : (∀ j, w'.cell? ⟨bW, j, none⟩ = #[v0, v1][j]?) ∧ ∀ j, w'.frozen? ⟨bW, j, none⟩ = false := by
  have hr : ∀ q, v.ownBlock = some q → q ≠ bW := fun q e => by
    rcases hv with rfl | rfl
    · have := (h.own0.lt q e).1; have := h.low; omega
    · have := (h.own1.lt q e).1; have := h.low; omega
  exact ⟨(box_grown hg h.box hr).2, fre_grown h.fre h.box.1 hg hr⟩
theorem PW.step {w X Y w7 : World} {base : Nat} {v0 v1 v : Value} {l0 l1 : List Bool} (hbx : Below w.heap.size w X) (h : PW X w.heap.size base v0 v1 l0 l1) (hXY : Below X.heap.size X Y) (hv : v = v0 ∨ v = v1) (hg : Y.grownBy w7 v.ownBlock) (j : Nat) (u : Value) :
    Below w.heap.size w (w7.setCell ⟨w.heap.size, j, none⟩ u) ∧ X.heap.size ≤ (w7.setCell ⟨w.heap.size, j, none⟩ u).heap.size := by
  have h1 := ext_trans hbx hXY
  refine ⟨(h1.grown hg h1.size (fun q e => ?_)).setCell (Nat.le_refl _) _, ?_⟩
  · have hl := h.low
    rcases hv with rfl | rfl
    · have := (h.own0.lt q e).1; omega
    · have := (h.own1.lt q e).1; omega
  · have h2 := hXY.size
    have h3 := hg.size
    simp [World.setCell]; omega
theorem own_any {w : World} {base e size n : Nat} {v : Value} {xs : List Value} (h : w.ownsRow base e size v n xs) : ∃ a cap, v = .slice a n cap := by
  obtain ⟨h1, ⟨rfl, rfl⟩ | ⟨g, cap, cur, rfl, _⟩⟩ := h
  · exact ⟨none, 0, rfl⟩
  · exact ⟨_, cap, rfl⟩
theorem bcs_get {l : List Bool} {k : Nat} (h : k < l.length) : (bcs l)[k]? = some (.bool l[k]) := by simp [bcs, h]
end Go.Proofs.YtemenlcigengeaaGreatDoor
namespace Go.Proofs.YtemenlcigengeaaGreatDoor
namespace Nm
/-- the base -/
def B : Nat := 4294967296
theorem B_eq : B = 4294967296 := rfl
theorem B_pos : 0 < B := by decide
def val : List Nat → Nat
  | [] => 0
  | x :: l => x + B * val l
def Dg (l : List Nat) : Prop := ∀ x ∈ l, x < B
theorem Dg.nil : Dg [] := fun _ h => by cases h
theorem Dg.cons {x : Nat} {l : List Nat} : Dg (x :: l) ↔ x < B ∧ Dg l := by
  constructor
  · intro h; exact ⟨h x (by simp), fun y hy => h y (by simp [hy])⟩
  · rintro ⟨h, k⟩ y hy
    rcases List.mem_cons.1 hy with rfl | hy
    · exact h
    · exact k y hy
theorem Dg.take {l : List Nat} (h : Dg l) (k : Nat) : Dg (l.take k) := fun x hx => h x (List.mem_of_mem_take hx)
theorem Dg.drop {l : List Nat} (h : Dg l) (k : Nat) : Dg (l.drop k) := fun x hx => h x (List.mem_of_mem_drop hx)
theorem Dg.get {l : List Nat} (h : Dg l) {k : Nat} (hk : k < l.length) : l[k] < B := h _ (List.getElem_mem hk)
theorem Dg.append {l m : List Nat} (h : Dg l) (k : Dg m) : Dg (l ++ m) := fun x hx => by
  rcases List.mem_append.1 hx with hx | hx
  · exact h x hx
  · exact k x hx
theorem Dg.set {l : List Nat} (h : Dg l) (k : Nat) {x : Nat} (hx : x < B) : Dg (l.set k x) := fun y hy => by
  rcases List.mem_or_eq_of_mem_set hy with hy | rfl
  · exact h y hy
  · exact hx
theorem Dg.zeros (n : Nat) : Dg (List.replicate n 0) := fun x hx => by rw [(List.mem_replicate.1 hx).2]; exact B_pos

theorem val_append (l m : List Nat) : val (l ++ m) = val l + B ^ l.length * val m := by
  induction l with
  | nil => simp [val]
  | cons x l ih => simp only [List.cons_append, val, ih, List.length_cons, Nat.pow_succ]; grind
theorem val_lt {l : List Nat} (h : Dg l) : val l < B ^ l.length := by
  induction l with
  | nil => simp [val]
  | cons x l ih =>
    have ⟨h1, h2⟩ := Dg.cons.1 h
    have h3 := ih h2
    simp only [val, List.length_cons, Nat.pow_succ]
    have : B * (val l + 1) ≤ B * B ^ l.length := Nat.mul_le_mul_left _ h3
    rw [Nat.mul_comm (B ^ l.length)]
    rw [Nat.mul_add] at this
    omega
theorem val_zeros (n : Nat) : val (List.replicate n 0) = 0 := by
  induction n with
  | zero => rfl
  | succ n ih => simp [List.replicate_succ, val, ih]
theorem val_take_drop (l : List Nat) (k : Nat) (h : k ≤ l.length) : val l = val (l.take k) + B ^ k * val (l.drop k) := by
  conv => lhs; rw [← List.take_append_drop k l]
  rw [val_append, List.length_take, Nat.min_eq_left h]
theorem val_take_succ (l : List Nat) (k : Nat) (h : k < l.length) : val (l.take (k + 1)) = val (l.take k) + B ^ k * l[k] := by
  rw [List.take_succ_eq_append_getElem h, val_append, List.length_take, Nat.min_eq_left (by omega)]; simp [val]
theorem val_drop (l : List Nat) (k : Nat) (h : k < l.length) : val (l.drop k) = l[k] + B * val (l.drop (k + 1)) := by
  rw [List.drop_eq_getElem_cons h]; rfl
theorem val_set (l : List Nat) (k y : Nat) (h : k < l.length) : val (l.set k y) + B ^ k * l[k] = val l + B ^ k * y := by
  have e : l.set k y = l.take k ++ y :: l.drop (k + 1) := List.set_eq_take_append_cons_drop.trans (by simp [h])
  rw [e, val_append, List.length_take, Nat.min_eq_left (by omega), val_take_drop l k (by omega), val_drop l k h]
  simp only [val]; grind
theorem take_set_succ (l : List Nat) (k y : Nat) (h : k < l.length) : (l.set k y).take (k + 1) = l.take k ++ [y] := by
  rw [List.take_succ_eq_append_getElem (by simpa using h)]; simp [List.take_set_of_le]
theorem val_take_set (l : List Nat) (k y : Nat) (h : k < l.length) : val ((l.set k y).take (k + 1)) = val (l.take k) + B ^ k * y := by
  rw [take_set_succ l k y h, val_append, List.length_take, Nat.min_eq_left (by omega)]; simp [val]
theorem drop_set (l : List Nat) (k y : Nat) (h : k < l.length) : (l.set k y).drop k = y :: l.drop (k + 1) := by
  rw [List.drop_eq_getElem_cons (by simpa using h)]; simp [List.drop_set_of_lt]

/-- the words of a number -/
def digs (n : Nat) : List Nat := if _h : n = 0 then [] else n % B :: digs (n / B)
  termination_by n
  decreasing_by exact Nat.div_lt_self (by omega) (by decide)
theorem digs_zero : digs 0 = [] := by unfold digs; simp
theorem digs_pos {n : Nat} (h : 0 < n) : digs n = n % B :: digs (n / B) := by rw [digs]; rw [dif_neg (by omega)]
theorem val_digs (n : Nat) : val (digs n) = n := by
  induction n using Nat.strongRecOn with
  | ind n ih =>
    by_cases h : n = 0
    · subst h; rw [digs_zero]; rfl
    · rw [digs_pos (by omega)]
      simp only [val]
      rw [ih _ (Nat.div_lt_self (by omega) (by decide))]
      exact Nat.mod_add_div n B
theorem digs_dg (n : Nat) : Dg (digs n) := by
  induction n using Nat.strongRecOn with
  | ind n ih =>
    by_cases h : n = 0
    · subst h; rw [digs_zero]; exact Dg.nil
    · rw [digs_pos (by omega)]
      exact Dg.cons.2 ⟨Nat.mod_lt _ B_pos, ih _ (Nat.div_lt_self (by omega) (by decide))⟩
def Can (l : List Nat) : Prop := ∀ h : l ≠ [], l.getLast h ≠ 0
theorem val_pos_of_can {l : List Nat} (h : Can l) (hl : l ≠ []) : 0 < val l := by
  induction l with
  | nil => exact absurd rfl hl
  | cons x l ih =>
    by_cases hn : l = []
    · subst hn
      have := h (by simp)
      simp at this
      simp only [val]; omega
    · have : 0 < val l := ih (fun h' => by have := h (by simp); rwa [List.getLast_cons h'] at this) hn
      have hB : 0 < B * val l := Nat.mul_pos B_pos this
      simp only [val]; omega
theorem digs_val {l : List Nat} (h : Dg l) (hc : Can l) : digs (val l) = l := by
  induction l with
  | nil => simp [val, digs_zero]
  | cons x l ih =>
    have ⟨h1, h2⟩ := Dg.cons.1 h
    have hp := val_pos_of_can hc (by simp)
    rw [digs_pos hp]
    have e1 : val (x :: l) % B = x := by simp only [val]; rw [Nat.add_mul_mod_self_left, Nat.mod_eq_of_lt h1]
    have e2 : val (x :: l) / B = val l := by simp only [val]; rw [Nat.add_mul_div_left _ _ B_pos, Nat.div_eq_of_lt h1, Nat.zero_add]
    rw [e1, e2]
    by_cases hn : l = []
    · subst hn; simp [val, digs_zero]
    · rw [ih h2 (fun h' => by have := hc (by simp); rwa [List.getLast_cons h'] at this)]
theorem digs_can (n : Nat) : Can (digs n) := by
  induction n using Nat.strongRecOn with
  | ind n ih =>
    by_cases h : n = 0
    · subst h; rw [digs_zero]; exact fun h => absurd rfl h
    · rw [digs_pos (by omega)]
      intro h'
      by_cases hz : n / B = 0
      · have : n < B := by
          rcases Nat.div_eq_zero_iff.1 hz with h | h
          · exact absurd h (by decide)
          · exact h
        simp only [hz, digs_zero, List.getLast_singleton]; rw [Nat.mod_eq_of_lt this]; exact h
      · have hne : digs (n / B) ≠ [] := by rw [digs_pos (Nat.pos_of_ne_zero hz)]; simp
        rw [List.getLast_cons hne]
        exact ih _ (Nat.div_lt_self (by omega) (by decide)) hne
/-- how many words a number has -/
def wlen (n : Nat) : Nat := (digs n).length
theorem wlen_zero : wlen 0 = 0 := by unfold wlen; rw [digs_zero]; rfl
theorem wlen_eq_zero {n : Nat} : wlen n = 0 ↔ n = 0 := by
  constructor
  · intro h
    have := List.length_eq_zero_iff.1 h
    have e := val_digs n
    rw [this] at e; exact e.symm
  · rintro rfl; exact wlen_zero
theorem lt_pow_wlen (n : Nat) : n < B ^ wlen n := by
  have := val_lt (digs_dg n); rwa [val_digs] at this
theorem pow_wlen_le {n : Nat} (h : 0 < n) : B ^ (wlen n - 1) ≤ n := by
  have hne : digs n ≠ [] := by rw [digs_pos h]; simp
  have hl : 0 < (digs n).length := List.length_pos_iff.2 hne
  have e := val_take_drop (digs n) ((digs n).length - 1) (by omega)
  rw [val_digs, val_drop _ _ (by omega)] at e
  have hc := digs_can n hne
  rw [List.getLast_eq_getElem] at hc
  have : 0 < B ^ ((digs n).length - 1) * ((digs n)[(digs n).length - 1] + B * val ((digs n).drop ((digs n).length - 1 + 1))) → True := fun _ => trivial
  have h1 : 1 ≤ (digs n)[(digs n).length - 1] + B * val ((digs n).drop ((digs n).length - 1 + 1)) := by omega
  have h2 := Nat.mul_le_mul_left (B ^ ((digs n).length - 1)) h1
  unfold wlen; omega
theorem wlen_le {n k : Nat} (h : n < B ^ k) : wlen n ≤ k := by
  by_cases h0 : n = 0
  · subst h0; rw [wlen_zero]; omega
  · have h1 := pow_wlen_le (n := n) (by omega)
    have h2 : B ^ (wlen n - 1) < B ^ k := Nat.lt_of_le_of_lt h1 h
    have h3 := (Nat.pow_lt_pow_iff_right (show 1 < B by decide)).1 h2
    omega
theorem wlen_mono {m n : Nat} (h : m ≤ n) : wlen m ≤ wlen n := wlen_le (Nat.lt_of_le_of_lt h (lt_pow_wlen n))
theorem wlen_mul (m n : Nat) : wlen (m * n) ≤ wlen m + wlen n := by
  apply wlen_le
  rw [Nat.pow_add]
  have h1 := lt_pow_wlen m
  have h2 := lt_pow_wlen n
  exact Nat.mul_lt_mul'' h1 h2
theorem lt_of_wlen {m n : Nat} (h : wlen m < wlen n) : m < n := by
  rcases Nat.lt_or_ge m n with h1 | h1
  · exact h1
  · have := wlen_mono h1; omega
/-- a list of words without zeros at its end is that of its number -/
theorem digs_take {l : List Nat} (h : Dg l) {k : Nat} (hk : k ≤ l.length) (hv : val (l.take k) = val l) (hz : ∀ j (hj : j < l.length), k = j + 1 → l[j] ≠ 0) : digs (val l) = l.take k := by
  rw [← hv]
  apply digs_val (h.take k)
  intro hne
  have hlen : (l.take k).length = k := by rw [List.length_take]; omega
  have hk0 : 0 < k := by have := List.length_pos_iff.2 hne; omega
  rw [List.getLast_eq_getElem]
  simp only [hlen, List.getElem_take]
  exact hz (k - 1) (by omega) (by omega)
theorem val_take_zero {l : List Nat} {k : Nat} (hk : k < l.length) (hv : val (l.take (k + 1)) = val l) (hz : l[k] = 0) : val (l.take k) = val l := by
  rw [← hv, val_take_succ l k hk, hz]; simp
/-- the first word that differs, from the top, decides -/
theorem val_lt_of {l m : List Nat} (hl : Dg l) {j : Nat} (h1 : j < l.length) (h2 : j < m.length) (hd : l.drop (j + 1) = m.drop (j + 1)) (h : l[j] < m[j]) : val l < val m := by
  rw [val_take_drop l j (by omega), val_take_drop m j (by omega), val_drop l j h1, val_drop m j h2, hd]
  have h3 := val_lt (hl.take j)
  rw [List.length_take, Nat.min_eq_left (by omega)] at h3
  generalize B ^ j = P at *
  generalize val (m.drop (j + 1)) = D at *
  have h4 : P * (l[j] + B * D + 1) ≤ P * (m[j] + B * D) := Nat.mul_le_mul_left _ (by omega)
  rw [Nat.mul_add, Nat.mul_one] at h4
  omega
def cmpN (x y : Nat) : Int := if x < y then -1 else if y < x then 1 else 0
theorem cmpN_lt {x y : Nat} (h : x < y) : cmpN x y = -1 := by unfold cmpN; rw [if_pos h]
theorem cmpN_gt {x y : Nat} (h : y < x) : cmpN x y = 1 := by unfold cmpN; rw [if_neg (by omega), if_pos h]
theorem cmpN_eq {x y : Nat} (h : x = y) : cmpN x y = 0 := by subst h; unfold cmpN; simp
theorem cmpN_zero {x y : Nat} : cmpN x y = 0 ↔ x = y := by unfold cmpN; split <;> (try split) <;> omega
theorem cmpN_neg {x y : Nat} : cmpN x y < 0 ↔ x < y := by unfold cmpN; split <;> (try split) <;> omega
theorem digs_inj {x y : Nat} (h : digs x = digs y) : x = y := by rw [← val_digs x, h, val_digs]
/-- a word of a list, or 0 behind its end -/
def wd (l : List Nat) (k : Nat) : Nat := l.getD k 0
theorem wd_get {l : List Nat} {k : Nat} (h : k < l.length) : wd l k = l[k] := by
  unfold wd; rw [List.getD_eq_getElem?_getD, List.getElem?_eq_getElem h]; rfl
theorem wd_past {l : List Nat} {k : Nat} (h : l.length ≤ k) : wd l k = 0 := by
  unfold wd; rw [List.getD_eq_getElem?_getD, List.getElem?_eq_none h]; rfl
theorem val_take_wd (l : List Nat) (k : Nat) : val (l.take (k + 1)) = val (l.take k) + B ^ k * wd l k := by
  by_cases hk : k < l.length
  · rw [val_take_succ l k hk, wd_get hk]
  · rw [List.take_of_length_le (by omega), List.take_of_length_le (by omega), wd_past (by omega)]; simp
/-- a step of the sum -/
theorem add_step {P V A C c x y : Nat} (h : V + P * c = A + C) : (V + P * ((c + x + y) % B)) + P * B * ((c + x + y) / B) = (A + P * x) + (C + P * y) := by
  have e : P * ((c + x + y) % B) + P * B * ((c + x + y) / B) = P * (c + x + y) := by
    rw [Nat.mul_assoc, ← Nat.mul_add, Nat.mod_add_div]
  have e2 : P * (c + x + y) = P * c + P * x + P * y := by rw [Nat.mul_add, Nat.mul_add]
  omega
end Nm
end Go.Proofs.YtemenlcigengeaaGreatDoor
namespace Go.Proofs.YtemenlcigengeaaGreatDoor
open Go.RowKit
namespace Nm
def wc (x : Nat) : Value := .int .u32 (x : Int)
def wcs (l : List Nat) : List Value := l.map wc
theorem wcs_length (l : List Nat) : (wcs l).length = l.length := by simp [wcs]
theorem wcs_get {l : List Nat} {k : Nat} (h : k < l.length) : (wcs l)[k]? = some (.int .u32 (l[k] : Int)) := by simp [wcs, wc, h]
theorem wcs_take (l : List Nat) (k : Nat) : (wcs l).take k = wcs (l.take k) := by simp [wcs, List.map_take]
theorem wcs_one (l : List Nat) : ∀ u ∈ wcs l, u.oneCell' = true := by
  intro u hu; simp only [wcs, List.mem_map] at hu; obtain ⟨c, _, rfl⟩ := hu; rfl
/-- The slice value v reads as the number n. -/
def N (w : World) (v : Value) (n : Nat) : Prop := Sl w v (wlen n) (wcs (digs n))
theorem N.ext {w w' : World} {v : Value} {n : Nat} (h : N w v n) (hb : Below w.heap.size w w') : N w' v n := Sl.ext h hb
theorem N.drew {w : World} {v : Value} {n : Nat} (h : N w v n) : N w.drew v n := h
theorem N.open_ {w : World} {v : Value} {n : Nat} (h : N w v n) : ∃ a c, v = .slice a (digs n).length c ∧ Sl w (.slice a (digs n).length c) (digs n).length (wcs (digs n)) := by
  obtain ⟨a, cap, rfl, h1⟩ := id h; exact ⟨a, cap, rfl, h⟩
theorem sl_addr {w : World} {a : Option Addr} {n c : Nat} {cs : List Value} (h : Sl w (.slice a n c) n cs) {k : Nat} {x : Value} (hk : cs[k]? = some x) : ∃ b o, a = some ⟨b, o, none⟩ ∧ w.cell? ⟨b, o + k, none⟩ = some x := by
  obtain ⟨a', cap, hv, _, _, _, h3⟩ := h
  cases hv
  exact h3 k x hk
theorem sl_caps {w : World} {a : Option Addr} {n c : Nat} {cs : List Value} (h : Sl w (.slice a n c) n cs) : n ≤ c ∧ c ≤ 9223372036854775807 := by
  obtain ⟨a', cap, hv, h1, h2, _, h3⟩ := h
  cases hv
  unfold maxLen at h2; exact ⟨h1, h2⟩
theorem sl_take {w : World} {a : Option Addr} {n c : Nat} {cs : List Value} (h : Sl w (.slice a n c) n cs) {k : Nat} (hk : k ≤ n) : Sl w (.slice a k c) k (cs.take k) := by
  obtain ⟨a', cap, hv, h1, h2, h0, h3⟩ := h
  cases hv
  refine ⟨a, c, rfl, by omega, h2, h0, fun i x hx => h3 i x ?_⟩
  rw [List.getElem?_take] at hx
  split at hx
  · exact hx
  · cases hx
/-- a call that leaves the world as it is, and returns a number -/
def TrimPost (w : World) (n : Nat) (e : Ending) (w' : World) : Prop := ∃ v, e = .returned v ∧ N w v n ∧ w = w'
/-- a call that returns a number, and makes memory -/
def NPost (w : World) (n : Nat) (e : Ending) (w' : World) : Prop := ∃ v, e = .returned v ∧ N w' v n ∧ Below w.heap.size w w'

/-- the block b is the call's own row of words, with whatever spare cells behind them -/
def Own (w : World) (b : Nat) (l : List Nat) : Prop := ∃ cur rest, w.heap[b]? = some (.cells cur 129 (0, 0)) ∧ cur.toList = wcs l ++ rest
theorem Own.lt {w : World} {b : Nat} {l : List Nat} (h : Own w b l) : b < w.heap.size := by
  obtain ⟨cur, rest, h, _⟩ := h
  rcases Nat.lt_or_ge b w.heap.size with hlt | hge
  · exact hlt
  · rw [Array.getElem?_eq_none hge] at h; cases h
theorem Own.cell {w : World} {b : Nat} {l : List Nat} (h : Own w b l) {i : Nat} (hi : i < l.length) : w.cell? ⟨b, i, none⟩ = some (.int .u32 (l[i] : Int)) := by
  obtain ⟨cur, rest, h, hc⟩ := h
  have := cell_of_row w b i _ _ (0, 0) h
  rw [this, ← Array.getElem?_toList, hc, List.getElem?_append_left (by rw [wcs_length]; exact hi), wcs_get hi]
theorem Own.frozen {w : World} {b : Nat} {l : List Nat} (h : Own w b l) (i : Nat) : w.frozen? ⟨b, i, none⟩ = false := by
  obtain ⟨cur, rest, h, hc⟩ := h; simp [World.frozen?, h]
theorem Own.set {w : World} {b : Nat} {l : List Nat} (h : Own w b l) {i : Nat} (hi : i < l.length) (x : Nat) : Own (w.setCell ⟨b, i, none⟩ (.int .u32 (x : Int))) b (l.set i x) := by
  obtain ⟨cur, rest, h, hc⟩ := h
  refine ⟨cur.setIfInBounds i (.int .u32 (x : Int)), rest, ?_, ?_⟩
  · simp only [World.setCell, Array.getElem?_modify, h]; simp
  · rw [Array.toList_setIfInBounds, hc, List.set_append_left _ _ (by rw [wcs_length]; exact hi)]
    simp [wcs, List.map_set, wc]
theorem Own.set' {w : World} {b : Nat} {l : List Nat} (h : Own w b l) {i : Nat} (hi : i < l.length) (x : Nat) {z : Int} (hz : z = (x : Int)) : Own (w.setCell ⟨b, i, none⟩ (.int .u32 z)) b (l.set i x) := by
  subst hz; exact h.set hi x
theorem Hid.len_set {l : List Nat} {n : Nat} (h : Hid (l.length = n)) (k x : Nat) : Hid ((l.set k x).length = n) := by
  have : (l.set k x).length = n := by rw [List.length_set]; exact h.out
  exact this
theorem Hid.dg_set {l : List Nat} (h : Hid (Dg l)) (k : Nat) {x : Nat} (hx : x < B) : Hid (Dg (l.set k x)) := Dg.set h.out k hx
theorem Own.drew {w : World} {b : Nat} {l : List Nat} (h : Own w b l) : Own w.drew b l := h
theorem Own.keep {w w' : World} {b : Nat} {l : List Nat} (h : Own w b l) (hb : w'.heap[b]? = w.heap[b]?) : Own w' b l := by
  obtain ⟨cur, rest, h, hc⟩ := h; exact ⟨cur, rest, hb.trans h, hc⟩
theorem Own.alloc {w : World} {b : Nat} {l : List Nat} (h : Own w b l) (o : Obj) : Own (w.alloc o) b l := h.keep (Below.heap_alloc w o b h.lt)
theorem Own.ext {w w' : World} {b : Nat} {l : List Nat} (h : Own w b l) (hb : Below w.heap.size w w') : Own w' b l := h.keep (hb.block b h.lt)
theorem Own.far {w : World} {b : Nat} {l : List Nat} (h : Own w b l) {p : Addr} (hp : b ≠ p.block) (u : Value) : Own (w.setCell p u) b l := h.keep (Below.heap_setCell w p u b hp)
theorem Own.sl {w : World} {b : Nat} {l : List Nat} (h : Own w b l) {c : Nat} (h1 : l.length ≤ c) (h2 : c ≤ maxLen) : Sl w (.slice (some ⟨b, 0, none⟩) l.length c) l.length (wcs l) := by
  refine ⟨_, c, rfl, h1, h2, (fun h => by cases h), fun i x hx => ⟨b, 0, rfl, ?_⟩⟩
  have hi : i < l.length := by have := (List.getElem?_eq_some_iff.1 hx).1; rwa [wcs_length] at this
  rw [wcs_get hi] at hx
  rw [Nat.zero_add, h.cell hi, hx]
theorem Own.new (w : World) (l : List Nat) : Own (w.alloc (.cells (wcs l).toArray 129)) w.heap.size l := ⟨_, [], heap_alloc_new w _, by simp⟩
/-- what append leaves -/
theorem Own.ofRow {w : World} {base n : Nat} {v : Value} {l : List Nat} (h : w.ownsRow base 129 1 v n (wcs l)) (hn : 0 < n) : ∃ g cap, v = .slice (some ⟨g, 0, none⟩) n cap ∧ base ≤ g ∧ n ≤ cap ∧ cap ≤ maxLen ∧ Own w g l := by
  obtain ⟨h1, ⟨_, h2⟩ | ⟨g, cap, cur, rfl, hb, hg, hn, hm, hs, ht⟩⟩ := h
  · omega
  · refine ⟨g, cap, rfl, hb, hn, hm, cur, cur.toList.drop (n * 1), hg, ?_⟩
    rw [← ht, List.take_append_drop]
theorem u32_info : (Tryz.prog.info? 129).map (fun i => (i.zero, i.size, i.bytes)) = some (some (.int .u32 0), 1, 4) := by kernel_rfl
theorem madeCells_words (n : Nat) : madeCells #[Value.int .u32 0] n = (wcs (List.replicate n 0)).toArray := by
  apply Array.ext
  · simp [size_madeCells, wcs]
  · intro i h1 h2; simp [madeCells, wcs, wc, Nat.mod_one]
/-- make([]uint32, n): a new row of zeros; the world goes on under a name -/
theorem wpList_make_words {w : World} {ops : Array Oper} {rest : List Oper} {o : Oper} {a : Act} {Q : Exit → Act → World → Prop}
    (hg : o.guard = none) (l c : Operand) (hop : o.op = Op.makeSlice 65 l c) {z : Int} (n : Nat) (hl : a.eval l = .int .i64 z) (hc : a.eval c = .int .i64 z) (hz : z = (n : Int)) (hb : n ≤ 10000000000)
    (h : ∀ W, Own W w.heap.size (List.replicate n 0) → Below w.heap.size w W → W.heap.size = w.heap.size + 1 → wpList Tryz.prog ops Q rest (a.put o.dst (.slice (some ⟨w.heap.size, 0, none⟩) n n)) W) :
    wpList Tryz.prog ops Q (o :: rest) a w := by
  subst hz
  obtain ⟨i, hi, hz0, hz1, hz2⟩ := info_parts u32_info
  refine wpList_make_row w hg l c _ hop 129 i _ Tryz.underlying65 hi hz0 hz1 rfl _ _ n hl hc (by rw [hz2]; omega) (by omega) ?_
  rw [madeCells_words]
  exact h _ (Own.new _ _) (by go_grown) (by simp)
end Nm
end Go.Proofs.YtemenlcigengeaaGreatDoor
