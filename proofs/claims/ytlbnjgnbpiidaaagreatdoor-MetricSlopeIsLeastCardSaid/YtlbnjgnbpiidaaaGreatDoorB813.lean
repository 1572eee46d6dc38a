/- append onto a row of the call's own, with a word on all cells of the row's block: no program stands in it. power and capitals of package decide, power of package metric. TrimPrefix of package strings at "-"; long, whole and readMiss of package decide. readMiss of package decide. decides of package decide, and the closure that decided hands to walk. The closure that decided hands to walk; walk with it; decided. Pairs of package decide: two rows of the call's own that grow, in an array of two. decided and readTest of package decide. readTest of package decide. The closure that Course hands to walk; walk with it. readPlan of package decide. -/
import Derived.Test.YtlbnjgnbpiidaaaGreatDoorB800
import Derived.Maps.AppendAt
import Derived.Test.YtlbnjgnbpiidaaaGreatDoorB802
import Derived.Deep.RegionHeld3
import Derived.Test.YtlbnjgnbpiidaaaGreatDoorB811
import Derived.Deep.Cut
import Derived.Test.YtlbnjgnbpiidaaaGreatDoorProg
import Derived.Deep.RegionLaw
import Derived.Deep.QuietTactic
import Derived.BigQuiet
import Derived.BigRegion
import Derived.IntWalk
namespace Go.Proofs.YtlbnjgnbpiidaaaGreatDoor
open Go.RowKit
/-- all cells of the block in which the slice's row lies are such -/
def RowQ (Q : Value → Prop) (w : World) (v : Value) : Prop := ∀ g, v.ownBlock = some g → ∀ (j : Nat) (u : Value), w.cell? ⟨g, j, none⟩ = some u → Q u
theorem RowQ.nil (Q : Value → Prop) (w : World) : RowQ Q w (.slice none 0 0) := fun g e => by cases e
theorem RowQ.ext {Q : Value → Prop} {w w' : World} {base e size n : Nat} {v : Value} {xs : List Value} (h : RowQ Q w v) (ho : w.ownsRow base e size v n xs) (hb : Below w.heap.size w w') : RowQ Q w' v := fun g hg j u hu =>
  h g hg j u ((hb.cell (p := ⟨g, j, none⟩) (ho.lt g hg).2).symm.trans hu)
theorem cell_in {w : World} {g j : Nat} {cur : Array Value} {e : TypeId} {fr : Nat × Nat} {u : Value} (hg : w.heap[g]? = some (.cells cur e fr)) (h : w.cell? ⟨g, j, none⟩ = some u) : u ∈ cur.toList := by
  simp only [World.cell?, hg] at h
  have h' : cur[j]? = some u := by simpa using h
  rw [← Array.getElem?_toList] at h'
  exact List.mem_of_getElem? h'
theorem zero_in {cs : Array Value} {n : Nat} {u : Value} (h : u ∈ (Builtin.zeroCells cs n).toList) : u ∈ cs.toList := by
  unfold Builtin.zeroCells at h
  simp at h
  obtain ⟨a, h1, h2⟩ := h
  have hp : 0 < cs.size := by
    rcases Nat.eq_zero_or_pos cs.size with h0 | h0
    · rw [h0] at h1; simp at h1
    · exact h0
  have hlt : a % cs.size < cs.size := Nat.mod_lt _ hp
  rw [← h2, getElem!_pos cs _ hlt]
  simp
theorem row_of_cells {Q : Value → Prop} {w : World} {base e size n : Nat} {v : Value} {xs : List Value} (h : RowQ Q w v) (ho : w.ownsRow base e size v n xs) : ∀ u ∈ xs, Q u := by
  intro u hu
  obtain ⟨h1, ⟨rfl, rfl⟩ | ⟨g, cap, cur, rfl, hb, hg, hn, hm, hs, ht⟩⟩ := ho
  · have : xs = [] := List.length_eq_zero_iff.1 (by omega)
    subst this; cases hu
  · rw [← ht] at hu
    obtain ⟨j, hj⟩ := List.getElem?_of_mem (List.mem_of_mem_take hu)
    refine h g rfl j u ?_
    simp only [World.cell?, hg]
    rw [Array.getElem?_toList] at hj
    simpa using hj
theorem run_append_q {P : Program} (Q : Value → Prop) (w : World) (base : Nat) (t ty e : TypeId) (i : TypeInfo) (z : Value) (size bytes : Nat) (ht : P.underlying t = some (.slice e)) (hi : P.info? e = some i) (hz : i.zero = some z)
    (hsize : i.size = size) (hby : i.bytes = bytes) (hzs : z.cells.size = size) (hsz : 0 < size)
    (v : Value) (n : Nat) (xs : List Value) (hown : w.ownsRow base e size v n xs)
    (a : Addr) (m c : Nat) (news : List Value) (hl : news.length = m * size) (hnews : ∀ j u, news[j]? = some u → w.cell? (a.add j) = some u) (h1 : ∀ u ∈ news, u.oneCell' = true)
    (h63 : n + m ≤ maxLen) (hbytes : (n + m) * bytes ≤ 140737488355328) (hbase : base ≤ w.heap.size) (hQ : RowQ Q w v) (hQz : ∀ u ∈ z.cells.toList, Q u) (hQn : ∀ u ∈ news, Q u) :
    ∃ v' w', (Builtin.append_ #[t, t] ty #[v, .slice (some a) m c]).run P w = .ok v' w' ∧ w'.ownsRow base e size v' (n + m) (xs ++ news) ∧ w.grownBy w' v.ownBlock ∧
      (v'.ownBlock = v.ownBlock ∨ v'.ownBlock = some w.heap.size) ∧ RowQ Q w' v' := by
  obtain ⟨v', w', hr, h2, h3, h4, h5⟩ := run_append_own_at (P := P) w base t ty e i z size bytes ht hi hz hsize hby hzs hsz v n xs hown a m c news hl hnews h1 h63 hbytes hbase
  refine ⟨v', w', hr, h2, h3, h5, ?_⟩
  have hxs := row_of_cells hQ hown
  subst hsize
  subst hby
  have hsmall : n + m ≤ 9223372036854775807 := by simp only [maxLen] at h63; omega
  have fresh : ∀ (cs : List Value) (A : Array Value), (∀ u ∈ A.toList, Q u) → RowQ Q (w.drew.alloc (.cells A e)) (.slice (some ⟨w.heap.size, 0, none⟩) (n + m) cs.length) := fun cs A hA g hg j u hu => by
    cases hg
    exact hA u (cell_in (heap_alloc_new w.drew _) hu)
  rcases hown.2 with ⟨rfl, rfl⟩ | ⟨g, cap, cur, rfl, hbg, hg, hnc, hcm, hcs, htake⟩
  · by_cases hm : m = 0
    · subst hm
      have e1 := h4.2 ⟨rfl, rfl⟩
      rw [e1]; exact RowQ.nil Q w'
    · have hr' := run_append_nil (P := P) w t ty e i z ht hi hz a m c news hl hnews (by omega) (by omega) (by have hb := hbytes; simp only [Nat.zero_add] at hb; omega)
      rw [hr] at hr'
      cases hr'
      intro g hg j u hu
      cases hg
      have := cell_in (heap_alloc_new w.drew _) hu
      simp only [Array.toList_append, List.mem_append] at this
      rcases this with h | h
      · exact hQn u h
      · exact hQz u (zero_in h)
  · by_cases hroom : n + m ≤ cap
    · have hfit : n * i.size + news.length ≤ cur.size := by rw [hl, hcs, ← Nat.add_mul]; exact Nat.mul_le_mul_right _ hroom
      have hr' := run_append_room (P := P) w t ty e i ht hi g n cap cur hg a m c news hl hnews h1 hroom hfit
      rw [hr] at hr'
      cases hr'
      have hcur : ∀ u ∈ cur.toList, Q u := fun u hu => by
        obtain ⟨j, hj⟩ := List.getElem?_of_mem hu
        refine hQ g rfl j u ?_
        simp only [World.cell?, hg]
        rw [Array.getElem?_toList] at hj
        simpa using hj
      intro g' hg' j u hu
      cases hg'
      have := cell_in (setRow_heap w g cur _ e _ hg) hu
      simp only [List.mem_append] at this
      rcases this with (h | h) | h
      · exact hcur u (List.mem_of_mem_take h)
      · exact hQn u h
      · exact hcur u (List.mem_of_mem_drop h)
    · have holds : ∀ j u, xs[j]? = some u → w.cell? ((⟨g, 0, none⟩ : Addr).add j) = some u := hown.cells (g := g) rfl
      have hr' := run_append_grow (P := P) w t ty e i z ht hi hz ⟨g, 0, none⟩ n cap xs hown.1 holds a m c news hl hnews (by omega) (by omega) (growslice_fits (by omega) hbytes)
      rw [hr] at hr'
      cases hr'
      intro g' hg' j u hu
      cases hg'
      have := cell_in (heap_alloc_new w.drew _) hu
      simp only [Array.toList_append, List.mem_append] at this
      rcases this with (h | h) | h
      · exact hxs u h
      · exact hQn u h
      · exact hQz u (zero_in h)
theorem wpList_append_q {P : Program} (Q : Value → Prop) {w : World} {ops : Array Oper} {rest : List Oper} {o : Oper} {a : Act} {Q' : Exit → Act → World → Prop} (hgd : o.guard = none) (s x : Operand) (t : TypeId)
    (ho : o.op = .call { callee := .builtin .append, args := #[s, x], argTypes := #[t, t] })
    (base : Nat) (e : TypeId) {z : Value} {size bytes : Nat} (ht : P.underlying t = some (.slice e)) (hinfo : (P.info? e).map (fun i => (i.zero, i.size, i.bytes)) = some (some z, size, bytes))
    (hzs : z.cells.size = size) (hsz : 0 < size)
    {v : Value} {n : Nat} {xs : List Value} (hs : a.eval s = v) (hown : w.ownsRow base e size v n xs)
    {ad : Addr} {m c : Nat} {news : List Value} (hx : a.eval x = .slice (some ad) m c) (hsl : Sl w (.slice (some ad) m c) m news) (hl : news.length = m * size) (h1 : ∀ u ∈ news, u.oneCell' = true)
    (h63 : n + m ≤ maxLen) (hbytes : (n + m) * bytes ≤ 140737488355328) (hbase : base ≤ w.heap.size) (hQ : RowQ Q w v) (hQz : ∀ u ∈ z.cells.toList, Q u) (hQn : ∀ u ∈ news, Q u)
    (h : ∀ v' w', w'.ownsRow base e size v' (n + m) (xs ++ news) → w.grownBy w' v.ownBlock → (v'.ownBlock = v.ownBlock ∨ v'.ownBlock = some w.heap.size) → RowQ Q w' v' → wpList P ops Q' rest (a.put o.dst v') w') : wpList P ops Q' (o :: rest) a w := by
  refine wpList_plain hgd fun K hK => ?_
  obtain ⟨i, hi, hz0, hz1, hz2⟩ := info_parts hinfo
  rcases hsl.src with ⟨h0, _⟩ | ⟨ad', c', e', hnews⟩
  · cases h0
  · cases e'
    obtain ⟨v', w', hr, h2, h3, h5, h6⟩ := run_append_q (P := P) Q w base t o.type e i z size bytes ht hi hz0 hz1 hz2 hzs hsz v n xs hown ad m c news hl hnews h1 h63 hbytes hbase hQ hQz hQn
    unfold Oper.wp execOp
    simp only [ho, resolve, invoke, builtin, Sem.run_bind, Sem.run_pure, Result.andThen_ok, List.map_toArray, List.map_cons, List.map_nil, hs, hx, hr]
    exact hK _ _ (h v' w' h2 h3 h5 h6)
end Go.Proofs.YtlbnjgnbpiidaaaGreatDoor
namespace Go.Proofs.YtlbnjgnbpiidaaaGreatDoor
open Go.RowKit
namespace Nm
theorem wlen_one {n : Nat} (h : n < B) : wlen n ≤ 1 := wlen_le (by rw [Nat.pow_one]; exact h)
theorem wlen_pow {n : Nat} (h : n < B) : ∀ k, wlen (n ^ k) ≤ k + 1
  | 0 => by rw [Nat.pow_zero]; exact wlen_one (by decide)
  | k + 1 => by
    rw [Nat.pow_succ]
    have h1 := wlen_mul (n ^ k) n
    have h2 := wlen_pow h k
    have h3 := wlen_one h
    omega
end Nm
end Go.Proofs.YtlbnjgnbpiidaaaGreatDoor
namespace Go.Proofs.YtlbnjgnbpiidaaaGreatDoor
open Go.RowKit
namespace Nm
set_option maxHeartbeats 2000000 in
theorem liteTrim_at (s : ByteArray) (hs : s.size ≤ maxLen) (w : World) : Calls Tryz.prog 102 #[.string s, .string ⟨#[45]⟩] w fun e w' => e = .returned (.string (cutS s)) ∧ w = w' := by
  have hs' := hs
  unfold maxLen at hs'
  by_cases h : cutB s.data.toList = true
  · have h1 : 1 ≤ s.size := by
      rcases Nat.lt_or_ge s.size 1 with h2 | h2
      · have := cut_none s h2; rw [h] at this; cases this
      · exact h2
    have HE : Hid (s.extract 1 s.size = cutS s) := by
      have : s.extract 1 s.size = cutS s := by unfold cutS; rw [if_pos h]
      exact this
    go_enter Tryz.func102, Tryz.ntmps102
    go_wp2_with fail
    refine (hasPrefix_at s hs w).mono ?_
    rw [h]
    rintro e w' ⟨rfl, rfl⟩
    clear h
    go_wp2
    go_ret
    refine ⟨?_, rfl⟩
    rw [← HE.out]; rfl
  · have hf : cutB s.data.toList = false := by simpa using h
    have HE : Hid (s = cutS s) := by
      have : s = cutS s := by unfold cutS; rw [if_neg h]
      exact this
    go_enter Tryz.func102, Tryz.ntmps102
    go_wp2_with fail
    refine (hasPrefix_at s hs w).mono ?_
    rw [hf]
    rintro e w' ⟨rfl, rfl⟩
    clear h hf
    go_wp2
    go_ret
    refine ⟨?_, rfl⟩
    rw [← HE.out]; rfl
theorem trimPrefix_at (s : ByteArray) (hs : s.size ≤ maxLen) (w : World) : Calls Tryz.prog 81 #[.string s, .string ⟨#[45]⟩] w fun e w' => e = .returned (.string (cutS s)) ∧ w = w' := by
  go_enter Tryz.func81, Tryz.ntmps81
  go_wp2_with fail
  refine (liteTrim_at s hs w).mono ?_
  rintro e w' ⟨rfl, rfl⟩
  go_wp2
  go_ret
  exact ⟨rfl, rfl⟩
def BPost (w : World) (b : Bool) (e : Ending) (w' : World) : Prop := e = .returned (.bool b) ∧ Below w.heap.size w w'
end Nm
end Go.Proofs.YtlbnjgnbpiidaaaGreatDoor
namespace Go.Proofs.YtlbnjgnbpiidaaaGreatDoor
open Go.RowKit
namespace Nm
theorem zero_is (q : Rat) (b : Bool) (hb : decide (q.num = 0) = b) (v : Value) (w : World) (hx : XR w v q) : Calls Tryz.prog 39 #[v] w (BPost w b) := by
  subst hb; exact zero_at q v w hx
theorem xcmp_is (x y : Rat) (z : Int) (hz : cmpQ x y = z) (v u : Value) (w : World) (hx : XR w v x) (hy : XR w u y) (l1 : wlen x.num.natAbs ≤ 100000000) (l2 : wlen x.den ≤ 100000000) (l3 : wlen y.num.natAbs ≤ 100000000) (l4 : wlen y.den ≤ 100000000) : Calls Tryz.prog 101 #[v, u] w (CmpPost w z) := by
  subst hz; exact xcmp_at x y v u w hx hy l1 l2 l3 l4
end Nm
end Go.Proofs.YtlbnjgnbpiidaaaGreatDoor
namespace Go.Proofs.YtlbnjgnbpiidaaaGreatDoor
open Go.RowKit
namespace Nm
/-- a bettor that lies in memory -/
structure Bett (w : World) (d : Int) (bets : Nat) (q : Rat) (b : Bool) (a1 : Option Addr) (n1 c1 : Nat) (a2 : Option Addr) (n2 c2 : Nat) : Prop where
  d1 : 1 ≤ d
  d3 : d ≤ 3
  b1 : 1 ≤ bets
  b5 : bets ≤ 5
  need : XR w (.agg #[.bool b, .slice a1 n1 c1, .slice a2 n2 c2]) q
  s1 : wlen q.num.natAbs ≤ 4000
  s2 : wlen q.den ≤ 4000
theorem Bett.ext {w w' : World} {d : Int} {bets : Nat} {q : Rat} {b : Bool} {a1 : Option Addr} {n1 c1 : Nat} {a2 : Option Addr} {n2 c2 : Nat} (h : Bett w d bets q b a1 n1 c1 a2 n2 c2) (hb : Below w.heap.size w w') : Bett w' d bets q b a1 n1 c1 a2 n2 c2 :=
  ⟨h.d1, h.d3, h.b1, h.b5, h.need.ext hb, h.s1, h.s2⟩
end Nm
end Go.Proofs.YtlbnjgnbpiidaaaGreatDoor
namespace Go.Proofs.YtlbnjgnbpiidaaaGreatDoor
open Go.RowKit
namespace Nm
/-- what the closure finds: the bettor's box, and the variable's -/
structure CE (w0 w : World) (bB bAt : Nat) (A : Array Value) (z : Int) : Prop where
  base : Below w0.heap.size w0 w
  box : Box w bB A
  at_ : Box w bAt #[.int .i64 z]
  fre : Fre w bAt
  le : w0.heap.size ≤ bAt
  ne : bB ≠ bAt
theorem CE.ext {w0 w w' : World} {bB bAt : Nat} {A : Array Value} {z : Int} (h : CE w0 w bB bAt A z) (hb : Below w.heap.size w w') : CE w0 w' bB bAt A z :=
  ⟨ext_trans h.base hb, h.box.ext hb, h.at_.ext hb, h.fre.ext h.at_ hb, h.le, h.ne⟩
theorem one_box {w : World} {b : Nat} {z y : Value} (h : Box w b #[z]) : Box (w.setCell ⟨b, 0, none⟩ y) b #[y] := by
  refine ⟨by simpa [World.setCell] using h.1, fun j => ?_⟩
  by_cases e : j = 0
  · subst e
    rw [World.cell?_setCell_same _ _ _ (h.2 0)]; rfl
  · rw [World.cell?_setCell_other _ _ _ _ (by intro e'; cases e'; exact e rfl), h.2 j]
    obtain ⟨k, rfl⟩ : ∃ k, j = k + 1 := ⟨j - 1, by omega⟩
    simp
theorem CE.set {w0 w : World} {bB bAt : Nat} {A : Array Value} {z : Int} (h : CE w0 w bB bAt A z) (y : Int) : CE w0 (w.setCell ⟨bAt, 0, none⟩ (.int .i64 y)) bB bAt A y := by
  refine ⟨h.base.setCell h.le _, ?_, one_box h.at_, fun j => by simp; exact h.fre j, h.le, h.ne⟩
  exact ⟨by simpa [World.setCell] using h.box.1, fun j => by rw [World.cell?_setCell_other _ _ _ _ (by intro e; cases e; exact h.ne rfl)]; exact h.box.2 j⟩
end Nm
end Go.Proofs.YtlbnjgnbpiidaaaGreatDoor
namespace Go.Proofs.YtlbnjgnbpiidaaaGreatDoor
open Go.RowKit

def bcs (l : List Bool) : List Value := l.map Value.bool
/-- two rows of the call's own, in an array of two -/
structure PW (wr : World) (bW base : Nat) (v0 v1 : Value) (l0 l1 : List Bool) : Prop where
  box : Box wr bW #[v0, v1]
  fre : Fre wr bW
  own0 : wr.ownsRow base 4 1 v0 l0.length (bcs l0)
  own1 : wr.ownsRow base 4 1 v1 l1.length (bcs l1)
  apart : ∀ k, v0.ownBlock = some k → v1.ownBlock = some k → False
  low : bW < base
theorem PW.ext {wr w' : World} {bW base : Nat} {v0 v1 : Value} {l0 l1 : List Bool} (h : PW wr bW base v0 v1 l0 l1) (hb : Below wr.heap.size wr w') : PW w' bW base v0 v1 l0 l1 :=
  ⟨h.box.ext hb, h.fre.ext h.box hb, ownsRow_ext h.own0 hb, ownsRow_ext h.own1 hb, h.apart, h.low⟩
theorem fre_set {w : World} {b : Nat} (h : Fre w b) (p : Addr) (u : Value) : Fre (w.setCell p u) b := fun j => by simp; exact h j
theorem ownsRow_far {w : World} {base e size n : Nat} {v : Value} {xs : List Value} (h : w.ownsRow base e size v n xs) {p : Addr} (hp : p.block < base) (u : Value) : (w.setCell p u).ownsRow base e size v n xs := by
  refine h.kept (row := some p.block) ⟨rfl, rfl, rfl, by simp [World.setCell], fun k hk hne => Below.heap_setCell w p u k (fun e => hne (by rw [e]))⟩ ?_
  cases e : v.ownBlock with
  | none => exact .inl rfl
  | some k => exact .inr (fun e' => by cases e'; have := (h.lt _ e).1; omega)
theorem fre_grown {w w' : World} {b : Nat} {row : Option Nat} (h : Fre w b) (hb : b < w.heap.size) (hg : w.grownBy w' row) (hr : ∀ q, row = some q → q ≠ b) : Fre w' b := fun j => by
  have e := hg.block b hb (fun e => hr b e.symm rfl)
  have h1 := h j
  unfold World.frozen? at h1 ⊢
  simp only [e] at *
  exact h1
theorem box_grown {w w' : World} {b : Nat} {A : Array Value} {row : Option Nat} (hg : w.grownBy w' row) (h : Box w b A) (hr : ∀ q, row = some q → q ≠ b) : Box w' b A :=
  ⟨Nat.lt_of_lt_of_le h.1 hg.size, fun j => (World.cell?_of_block (w := w) (hg.block b h.1 (fun e => hr b e.symm rfl))).trans (h.2 j)⟩
/-- what a push finds in the array of two -/
theorem PW.at {w w' : World} {bW base : Nat} {v0 v1 v : Value} {l0 l1 : List Bool} (h : PW w bW base v0 v1 l0 l1) (hv : v = v0 ∨ v = v1) (hg : w.grownBy w' v.ownBlock) : (∀ j, w'.cell? ⟨bW, j, none⟩ = #[v0, v1][j]?) ∧ ∀ j, w'.frozen? ⟨bW, j, none⟩ = false := by
  have hr : ∀ q, v.ownBlock = some q → q ≠ bW := fun q e => by
    rcases hv with rfl | rfl
    · have := (h.own0.lt q e).1; have := h.low; omega
    · have := (h.own1.lt q e).1; have := h.low; omega
  exact ⟨(box_grown hg h.box hr).2, fre_grown h.fre h.box.1 hg hr⟩
theorem PW.step {w X Y w7 : World} {base : Nat} {v0 v1 v : Value} {l0 l1 : List Bool} (hbx : Below w.heap.size w X) (h : PW X w.heap.size base v0 v1 l0 l1) (hXY : Below X.heap.size X Y) (hv : v = v0 ∨ v = v1) (hg : Y.grownBy w7 v.ownBlock) (j : Nat) (u : Value) :
    Below w.heap.size w (w7.setCell ⟨w.heap.size, j, none⟩ u) ∧ X.heap.size ≤ (w7.setCell ⟨w.heap.size, j, none⟩ u).heap.size := by
  have h1 := ext_trans hbx hXY
  refine ⟨(h1.grown hg h1.size (fun q e => ?_)).setCell (Nat.le_refl _) _, ?_⟩
  · have hl := h.low
    rcases hv with rfl | rfl
    · have := (h.own0.lt q e).1; omega
    · have := (h.own1.lt q e).1; omega
  · have h2 := hXY.size
    have h3 := hg.size
    simp [World.setCell]; omega
end Go.Proofs.YtlbnjgnbpiidaaaGreatDoor
namespace Go.Proofs.YtlbnjgnbpiidaaaGreatDoor
open Go.RowKit
theorem box_cell {w : World} {b : Nat} {A : Array Value} (h : Box w b A) {j : Nat} (hj : j < A.size) (u : Value) : Box (w.setCell ⟨b, j, none⟩ u) b (A.setIfInBounds j u) := by
  refine ⟨by simpa [World.setCell] using h.1, fun i => ?_⟩
  by_cases e : i = j
  · subst e
    rw [World.cell?_setCell_same _ _ _ ((h.2 i).trans (Array.getElem?_eq_getElem hj))]
    simp [hj]
  · rw [World.cell?_setCell_other _ _ _ _ (by intro e'; cases e'; exact e rfl), h.2 i, Array.getElem?_setIfInBounds_ne (fun e' => e e'.symm)]
theorem box_other {w : World} {b b' : Nat} {A : Array Value} (h : Box w b A) (hne : b ≠ b') (j : Nat) (u : Value) : Box (w.setCell ⟨b', j, none⟩ u) b A :=
  ⟨by simpa [World.setCell] using h.1, fun i => by rw [World.cell?_setCell_other _ _ _ _ (by intro e; cases e; exact hne rfl)]; exact h.2 i⟩
namespace Nm
end Nm
end Go.Proofs.YtlbnjgnbpiidaaaGreatDoor
namespace Go.Proofs.YtlbnjgnbpiidaaaGreatDoor
open Go.RowKit
namespace Nm
theorem five {w : World} {b : Nat} {x0 x1 x2 x3 x4 : Value} (u0 u1 u2 u3 u4 : Value) (h : Box w b #[x0, x1, x2, x3, x4]) : Box (((((w.setCell ⟨b, 0, none⟩ u0).setCell ⟨b, 1, none⟩ u1).setCell ⟨b, 2, none⟩ u2).setCell ⟨b, 3, none⟩ u3).setCell ⟨b, 4, none⟩ u4) b #[u0, u1, u2, u3, u4] :=
  box_cell (box_cell (box_cell (box_cell (box_cell h (j := 0) (by simp) u0) (j := 1) (by simp) u1) (j := 2) (by simp) u2) (j := 3) (by simp) u3) (j := 4) (by simp) u4
end Nm
end Go.Proofs.YtlbnjgnbpiidaaaGreatDoor
namespace Go.Proofs.YtlbnjgnbpiidaaaGreatDoor
open Go.RowKit
namespace Nm
def Keeps (w w' : World) : Prop := ∀ a v, w.cell? a = some v → w'.cell? a = some v
theorem Keeps.refl (w : World) : Keeps w w := fun _ _ h => h
theorem Keeps.of_below {w w' : World} (h : Below w.heap.size w w') : Keeps w w' := fun a _ hc => (h.cell (p := a) (World.block_lt_of_cell? w a hc)).trans hc
theorem Keeps.trans {a b c : World} (h : Keeps a b) (k : Keeps b c) : Keeps a c := fun x v hx => k x v (h x v hx)
theorem Sl.keep {w w' : World} {v : Value} {n : Nat} {cs : List Value} (h : Sl w v n cs) (hk : Keeps w w') : Sl w' v n cs := by
  obtain ⟨a, cap, hv, h1, h2, h0, h3⟩ := h
  refine ⟨a, cap, hv, h1, h2, h0, fun i x hx => ?_⟩
  obtain ⟨b, o, ha, hc⟩ := h3 i x hx
  exact ⟨b, o, ha, hk _ _ hc⟩
structure CO (w0 wp w : World) (bB bE bO base : Nat) (A : Array Value) (v : Value) (n : Nat) (cs : List Value) : Prop where
  low : Below w0.heap.size w0 w
  box : Box w bB A
  e : Box w bE #[.int .i64 0]
  fe : Fre w bE
  o : Box w bO #[v]
  fo : Fre w bO
  own : w.ownsRow base 24 2 v n cs
  l1 : w0.heap.size ≤ bE
  l2 : w0.heap.size ≤ bO
  l3 : w0.heap.size ≤ base
  t1 : bB < base
  t2 : bE < base
  t3 : bO < base
  n1 : bB ≠ bE
  n2 : bB ≠ bO
  n3 : bE ≠ bO
  bs : base ≤ w.heap.size
  kp : Keeps wp w
  p1 : wp.heap.size ≤ bO
  p2 : wp.heap.size ≤ base
theorem CO.ext {w0 wp w w' : World} {bB bE bO base : Nat} {A : Array Value} {v : Value} {n : Nat} {cs : List Value} (h : CO w0 wp w bB bE bO base A v n cs) (hb : Below w.heap.size w w') : CO w0 wp w' bB bE bO base A v n cs :=
  ⟨ext_trans h.low hb, h.box.ext hb, h.e.ext hb, h.fe.ext h.e hb, h.o.ext hb, h.fo.ext h.o hb, ownsRow_ext h.own hb, h.l1, h.l2, h.l3, h.t1, h.t2, h.t3, h.n1, h.n2, h.n3, Nat.le_trans h.bs hb.size, h.kp.trans (.of_below hb), h.p1, h.p2⟩
theorem CO.push {w0 wp w w' : World} {bB bE bO base : Nat} {A : Array Value} {v v' : Value} {n n' : Nat} {cs cs' : List Value} (h : CO w0 wp w bB bE bO base A v n cs) (hown : w'.ownsRow base 24 2 v' n' cs') (hg : w.grownBy w' v.ownBlock) : CO w0 wp (w'.setCell ⟨bO, 0, none⟩ v') bB bE bO base A v' n' cs' := by
  have hr : ∀ (x : Nat), x < base → ∀ q, v.ownBlock = some q → q ≠ x := fun x hx q e => by have := (h.own.lt q e).1; omega
  have hlow := h.low.grown hg h.low.size (fun q e => by have := (h.own.lt q e).1; have := h.l3; omega)
  exact ⟨hlow.setCell h.l2 _, box_other (box_grown hg h.box (hr _ h.t1)) h.n2 _ _, box_other (box_grown hg h.e (hr _ h.t2)) h.n3 _ _, fre_set (fre_grown h.fe h.e.1 hg (hr _ h.t2)) _ _, one_box (box_grown hg h.o (hr _ h.t3)), fre_set (fre_grown h.fo h.o.1 hg (hr _ h.t3)) _ _, ownsRow_far hown h.t3 _, h.l1, h.l2, h.l3, h.t1, h.t2, h.t3, h.n1, h.n2, h.n3, Nat.le_trans h.bs (by have := hg.size; simpa [World.setCell] using this), (fun a u hc => by
    have hlt := World.block_lt_of_cell? wp a hc
    have hb : a.block ≠ bO := by have := h.p1; omega
    rw [World.cell?_setCell_other _ _ _ _ (by intro e; exact hb (by rw [← e]))]
    exact hg.cell (h.kp a u hc) (fun e => by have := (h.own.lt _ e.symm).1; have := h.p2; omega)), h.p1, h.p2⟩
theorem ownsRow_ne {w : World} {base e size n : Nat} {v : Value} {xs : List Value} (h : w.ownsRow base e size v n xs) {p : Addr} (hp : ∀ q, v.ownBlock = some q → q ≠ p.block) (u : Value) : (w.setCell p u).ownsRow base e size v n xs := by
  refine h.kept (row := some p.block) ⟨rfl, rfl, rfl, by simp [World.setCell], fun k hk hne => Below.heap_setCell w p u k (fun e => hne (by rw [e]))⟩ ?_
  cases e : v.ownBlock with
  | none => exact .inl rfl
  | some k => exact .inr (fun e' => by cases e'; exact hp _ e rfl)
theorem CO.far {w0 wp w : World} {bB bE bO base : Nat} {A : Array Value} {v : Value} {n : Nat} {cs : List Value} (h : CO w0 wp w bB bE bO base A v n cs) {r : Nat} (j : Nat) (hr : base ≤ r) (hv : ∀ q, v.ownBlock = some q → q ≠ r) (u : Value) : CO w0 wp (w.setCell ⟨r, j, none⟩ u) bB bE bO base A v n cs := by
  have h1 := h.t1
  have h2 := h.t2
  have h3 := h.t3
  have h4 := h.l3
  exact ⟨h.low.setCell (Nat.le_trans h4 hr) _, box_other h.box (by omega) _ _, box_other h.e (by omega) _ _, fre_set h.fe _ _, box_other h.o (by omega) _ _, fre_set h.fo _ _, ownsRow_ne h.own hv _, h.l1, h.l2, h.l3, h.t1, h.t2, h.t3, h.n1, h.n2, h.n3, by simpa [World.setCell] using h.bs, (fun a v' hc => by
    have hlt := World.block_lt_of_cell? wp a hc
    have hb : a.block ≠ r := by have := h.p2; omega
    rw [World.cell?_setCell_other _ _ _ _ (by intro e; exact hb (by rw [← e]))]
    exact h.kp a v' hc), h.p1, h.p2⟩
end Nm
end Go.Proofs.YtlbnjgnbpiidaaaGreatDoor
namespace Go.Proofs.YtlbnjgnbpiidaaaGreatDoor
open Go.RowKit
theorem Sl.keepQ {Q : Value → Prop} {w w' : World} {v r : Value} {n : Nat} {cs : List Value} (h : Sl w v n cs) (hq : ∀ u ∈ cs, ¬ Q u) (hR : RowQ Q w r) (hg : w.grownBy w' r.ownBlock) : Sl w' v n cs := by
  obtain ⟨a, cap, hv, h1, h2, h0, h3⟩ := h
  refine ⟨a, cap, hv, h1, h2, h0, fun i x hx => ?_⟩
  obtain ⟨b, o, ha, hc⟩ := h3 i x hx
  refine ⟨b, o, ha, hg.cell hc (fun e => ?_)⟩
  exact hq x (List.mem_of_getElem? hx) (hR b e.symm _ _ hc)
namespace Nm
def NW (u : Value) : Prop := isWord u = false
theorem N.keepQ {w w' : World} {v r : Value} {n : Nat} (h : N w v n) (hR : RowQ NW w r) (hg : w.grownBy w' r.ownBlock) : N w' v n := by
  refine Sl.keepQ h (fun u hu hw => ?_) hR hg
  simp only [wcs, List.mem_map] at hu
  obtain ⟨c, _, rfl⟩ := hu
  cases hw
theorem XR.keepQ {w w' : World} {v r : Value} {q : Rat} (h : XR w v q) (hR : RowQ NW w r) (hg : w.grownBy w' r.ownBlock) : XR w' v q := by
  obtain ⟨v1, v2, h0, h1, h2⟩ := h; exact ⟨v1, v2, h0, h1.keepQ hR hg, h2.keepQ hR hg⟩
structure BV where
  b : Bool
  a1 : Option Addr
  n1 : Nat
  c1 : Nat
  a2 : Option Addr
  n2 : Nat
  c2 : Nat
def BvOk (w : World) (K : Nat) (q : Rat) (v : BV) : Prop := Bett w 2 K q v.b v.a1 v.n1 v.c1 v.a2 v.n2 v.c2
theorem BvOk.ext {w w' : World} {K : Nat} {q : Rat} {v : BV} (h : BvOk w K q v) (hb : Below w.heap.size w w') : BvOk w' K q v := Bett.ext h hb
theorem BvOk.keepQ {w w' : World} {K : Nat} {q : Rat} {v : BV} {r : Value} (h : BvOk w K q v) (hR : RowQ NW w r) (hg : w.grownBy w' r.ownBlock) : BvOk w' K q v :=
  ⟨h.d1, h.d3, h.b1, h.b5, XR.keepQ h.need hR hg, h.s1, h.s2⟩
structure RT where
  n : ByteArray
  d : ByteArray
def rtOk (r : RT) : Prop := r.n.size ≤ maxLen ∧ r.d.size ≤ maxLen
end Nm
end Go.Proofs.YtlbnjgnbpiidaaaGreatDoor
