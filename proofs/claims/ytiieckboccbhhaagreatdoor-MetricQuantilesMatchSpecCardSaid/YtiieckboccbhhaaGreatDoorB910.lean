/- Plain: fractions that are not in lowest terms: a sign, a numerator and a denominator. No program stands in it. Rows: blocks of which all cells are known; a whole row read, and written. No program stands in it. append onto a row of the call's own, with a word on all cells of the row's block: no program stands in it. Fractions of the reference in memory: three cells, two of them numbers. -/
import Derived.Test.YtiieckboccbhhaaGreatDoorB909
import Derived.Test.YtiieckboccbhhaaGreatDoorB902
import Derived.Test.YtiieckboccbhhaaGreatDoorB904
import Derived.Test.YtiieckboccbhhaaGreatDoorB912
import Derived.Test.YtiieckboccbhhaaGreatDoorB900
import Derived.Deep.WholeRow
import Derived.Laws.CopyOwn
import Derived.Test.YtiieckboccbhhaaGreatDoorB925
import Derived.Maps.AppendAt
import Derived.Test.YtiieckboccbhhaaGreatDoorProg
import Derived.Test.YtiieckboccbhhaaGreatDoorB903
import Derived.Test.YtiieckboccbhhaaGreatDoorB905
import Derived.Test.YtiieckboccbhhaaGreatDoorB906
import Derived.Test.YtiieckboccbhhaaGreatDoorB907
import Derived.Test.YtiieckboccbhhaaGreatDoorB908
import Derived.Test.YtiieckboccbhhaaGreatDoorB913
import Derived.Test.YtiieckboccbhhaaGreatDoorB914
import Derived.Test.YtiieckboccbhhaaGreatDoorB915
import Derived.Test.YtiieckboccbhhaaGreatDoorB916
import Derived.Test.YtiieckboccbhhaaGreatDoorB917
import Derived.Test.YtiieckboccbhhaaGreatDoorB918
import Derived.Test.YtiieckboccbhhaaGreatDoorB919
import Derived.Test.YtiieckboccbhhaaGreatDoorB920
import Derived.Test.YtiieckboccbhhaaGreatDoorB921
import Derived.Test.YtiieckboccbhhaaGreatDoorShelf
import Derived.Test.YtiieckboccbhhaaGreatDoorB922
import Derived.Test.YtiieckboccbhhaaGreatDoorB923
import Derived.Test.YtiieckboccbhhaaGreatDoorB924
namespace Go.Proofs.YtiieckboccbhhaaGreatDoor
namespace Nt
open _root_.Go.Proofs.YtiieckboccbhhaaGreatDoor.Nm (sgn)
def fq (b : Bool) (n d : Nat) : Rat := ((sgn b n : Int) : Rat) / ((d : Nat) : Rat)
theorem nat_ne {d : Nat} (h : 0 < d) : ((d : Nat) : Rat) ≠ 0 := fun e => by
  have := Rat.natCast_inj.1 (show ((d : Nat) : Rat) = ((0 : Nat) : Rat) from e)
  omega
theorem nat_pos {d : Nat} (h : 0 < d) : (0 : Rat) < ((d : Nat) : Rat) := Rat.natCast_lt_natCast.2 h
theorem sgn_cast (b : Bool) (n : Nat) : ((sgn b n : Int) : Rat) = (if b then -((n : Nat) : Rat) else ((n : Nat) : Rat)) := by
  cases b
  · rfl
  · show ((-(n : Int) : Int) : Rat) = -((n : Nat) : Rat)
    rw [Rat.intCast_neg]; rfl
theorem Sim.pos {b : Bool} {n d : Nat} {b' : Bool} {n' d' : Nat} (h : Sim b n d b' n' d') (hd : 0 < d) : 0 < d' := by
  obtain ⟨g, hg, h1, h2, _⟩ := h
  rcases Nat.eq_zero_or_pos d' with e | e
  · rw [e, Nat.zero_mul] at h2; omega
  · exact e
theorem Sim.fq {b : Bool} {n d : Nat} {b' : Bool} {n' d' : Nat} (h : Sim b n d b' n' d') (hd : 0 < d) : fq b' n' d' = fq b n d := by
  have hp := h.pos hd
  obtain ⟨g, hg, h1, h2, h3⟩ := h
  have k1 := nat_ne hg
  have k2 := nat_ne hp
  unfold Nt.fq
  rw [sgn_cast, sgn_cast, h1, h2, Rat.natCast_mul, Rat.natCast_mul]
  rcases h3 with h3 | h3
  · subst h3
    cases b' <;> simp only [if_true, if_false, Bool.false_eq_true] <;> grind
  · have : n' = 0 := by
      rw [h3.1] at h1
      rcases Nat.eq_zero_or_pos n' with e | e
      · exact e
      · have := Nat.mul_pos e hg; omega
    subst this
    cases b <;> cases b' <;> simp only [if_true, if_false, Bool.false_eq_true] <;> grind
/-- a sum's sign and numerator -/
def plB (a b : Bool) (p q : Nat) : Bool := if a = b then a else if q ≤ p then a else b
def plN (a b : Bool) (p q : Nat) : Nat := if a = b then p + q else if q ≤ p then p - q else q - p
theorem pl_le (a b : Bool) (p q : Nat) : plN a b p q ≤ p + q := by unfold plN; split <;> (try split) <;> omega
theorem pl_sgn (a b : Bool) (p q : Nat) : sgn (plB a b p q) (plN a b p q) = sgn a p + sgn b q := by
  unfold plB plN sgn
  by_cases h : q ≤ p <;> cases a <;> cases b <;> simp [h] <;> omega
theorem fq_add {a b : Bool} {n d n' d' : Nat} (hd : 0 < d) (hd' : 0 < d') : fq (plB a b (n * d') (n' * d)) (plN a b (n * d') (n' * d)) (d * d') = fq a n d + fq b n' d' := by
  have k1 := nat_ne hd
  have k2 := nat_ne hd'
  unfold fq
  rw [pl_sgn, Rat.intCast_add, sgn_cast, sgn_cast, sgn_cast, sgn_cast, Rat.natCast_mul, Rat.natCast_mul, Rat.natCast_mul]
  cases a <;> cases b <;> simp only [if_true, if_false, Bool.false_eq_true] <;> grind
theorem fq_neg (b : Bool) (n d : Nat) : fq (!b) n d = -fq b n d := by
  unfold fq
  rw [sgn_cast, sgn_cast]
  cases b <;> simp only [Bool.not_true, Bool.not_false, if_true, if_false, Bool.false_eq_true] <;> grind
theorem fq_div {a b : Bool} {n d n' d' : Nat} (hd : 0 < d) (hd' : 0 < d') (hn : 0 < n') : fq (a != b) (n * d') (d * n') = fq a n d / fq b n' d' := by
  have k1 := nat_ne hd
  have k2 := nat_ne hd'
  have k3 := nat_ne hn
  unfold fq
  rw [sgn_cast, sgn_cast, sgn_cast, Rat.natCast_mul, Rat.natCast_mul]
  cases a <;> cases b <;> simp <;> grind
theorem fq_zero {b : Bool} {n d : Nat} (hd : 0 < d) : fq b n d = 0 ↔ n = 0 := by
  have k1 := nat_ne hd
  unfold fq
  rw [sgn_cast]
  constructor
  · intro h
    rcases Nat.eq_zero_or_pos n with e | e
    · exact e
    · have := nat_ne e
      cases b <;> simp only [if_true, if_false, Bool.false_eq_true] at h <;> grind
  · rintro rfl
    cases b <;> simp only [if_true, if_false, Bool.false_eq_true] <;> grind
theorem fq_below {b : Bool} {n d : Nat} (hd : 0 < d) (hn : 0 < n) : fq b n d < 0 ↔ b = true := by
  have k1 := nat_pos hd
  have k2 := nat_pos hn
  have k3 := Rat.mul_pos k2 (Rat.inv_pos.2 k1)
  unfold fq
  rw [sgn_cast, Rat.div_def]
  cases b <;> simp only [if_true, if_false, Bool.false_eq_true] <;> grind
/-- a whole number -/
theorem fq_whole (z : Int) : fq (decide (z < 0)) z.natAbs 1 = (z : Rat) := by
  unfold fq
  rw [show sgn (decide (z < 0)) z.natAbs = z from by unfold sgn; by_cases h : z < 0 <;> simp [h] <;> omega]
  show (z : Rat) / 1 = z
  grind
end Nt
end Go.Proofs.YtiieckboccbhhaaGreatDoor
namespace Go.Proofs.YtiieckboccbhhaaGreatDoor
open Go.RowKit
namespace Nt
end Nt
open Nt (RH RH.cell RH.other)
theorem zzo {w : World} {b d j : Nat} {A : Array Value} {t : TypeId} {v : Value} (h : RH w b A t) (hne : b ≠ d) : RH (w.setCell ⟨d, j, none⟩ v) b A t := h.other hne v
end Go.Proofs.YtiieckboccbhhaaGreatDoor
namespace Go.Proofs.YtiieckboccbhhaaGreatDoor
open Go.RowKit
theorem cell_in {w : World} {g j : Nat} {cur : Array Value} {e : TypeId} {fr : Nat × Nat} {u : Value} (hg : w.heap[g]? = some (.cells cur e fr)) (h : w.cell? ⟨g, j, none⟩ = some u) : u ∈ cur.toList := by
  simp only [World.cell?, hg] at h
  have h' : cur[j]? = some u := by simpa using h
  rw [← Array.getElem?_toList] at h'
  exact List.mem_of_getElem? h'
theorem zero_in {cs : Array Value} {n : Nat} {u : Value} (h : u ∈ (Builtin.zeroCells cs n).toList) : u ∈ cs.toList := by
  unfold Builtin.zeroCells at h
  simp at h
  obtain ⟨a, h1, h2⟩ := h
  have hp : 0 < cs.size := by
    rcases Nat.eq_zero_or_pos cs.size with h0 | h0
    · rw [h0] at h1; simp at h1
    · exact h0
  have hlt : a % cs.size < cs.size := Nat.mod_lt _ hp
  rw [← h2, getElem!_pos cs _ hlt]
  simp
theorem row_of_cells {Q : Value → Prop} {w : World} {base e size n : Nat} {v : Value} {xs : List Value} (h : RowQ Q w v) (ho : w.ownsRow base e size v n xs) : ∀ u ∈ xs, Q u := by
  intro u hu
  obtain ⟨h1, ⟨rfl, rfl⟩ | ⟨g, cap, cur, rfl, hb, hg, hn, hm, hs, ht⟩⟩ := ho
  · have : xs = [] := List.length_eq_zero_iff.1 (by omega)
    subst this; cases hu
  · rw [← ht] at hu
    obtain ⟨j, hj⟩ := List.getElem?_of_mem (List.mem_of_mem_take hu)
    refine h g rfl j u ?_
    simp only [World.cell?, hg]
    rw [Array.getElem?_toList] at hj
    simpa using hj
theorem run_append_q {P : Program} (Q : Value → Prop) (w : World) (base : Nat) (t ty e : TypeId) (i : TypeInfo) (z : Value) (size bytes : Nat) (ht : P.underlying t = some (.slice e)) (hi : P.info? e = some i) (hz : i.zero = some z)
    (hsize : i.size = size) (hby : i.bytes = bytes) (hzs : z.cells.size = size) (hsz : 0 < size)
    (v : Value) (n : Nat) (xs : List Value) (hown : w.ownsRow base e size v n xs)
    (a : Addr) (m c : Nat) (news : List Value) (hl : news.length = m * size) (hnews : ∀ j u, news[j]? = some u → w.cell? (a.add j) = some u) (h1 : ∀ u ∈ news, u.oneCell' = true)
    (h63 : n + m ≤ maxLen) (hbytes : (n + m) * bytes ≤ 140737488355328) (hbase : base ≤ w.heap.size) (hQ : RowQ Q w v) (hQz : ∀ u ∈ z.cells.toList, Q u) (hQn : ∀ u ∈ news, Q u) :
    ∃ v' w', (Builtin.append_ #[t, t] ty #[v, .slice (some a) m c]).run P w = .ok v' w' ∧ w'.ownsRow base e size v' (n + m) (xs ++ news) ∧ w.grownBy w' v.ownBlock ∧
      (v'.ownBlock = v.ownBlock ∨ v'.ownBlock = some w.heap.size) ∧ RowQ Q w' v' := by
  obtain ⟨v', w', hr, h2, h3, h4, h5⟩ := run_append_own_at (P := P) w base t ty e i z size bytes ht hi hz hsize hby hzs hsz v n xs hown a m c news hl hnews h1 h63 hbytes hbase
  refine ⟨v', w', hr, h2, h3, h5, ?_⟩
  have hxs := row_of_cells hQ hown
  subst hsize
  subst hby
  have hsmall : n + m ≤ 9223372036854775807 := by simp only [maxLen] at h63; omega
  have fresh : ∀ (cs : List Value) (A : Array Value), (∀ u ∈ A.toList, Q u) → RowQ Q (w.drew.alloc (.cells A e)) (.slice (some ⟨w.heap.size, 0, none⟩) (n + m) cs.length) := fun cs A hA g hg j u hu => by
    cases hg
    exact hA u (cell_in (heap_alloc_new w.drew _) hu)
  rcases hown.2 with ⟨rfl, rfl⟩ | ⟨g, cap, cur, rfl, hbg, hg, hnc, hcm, hcs, htake⟩
  · by_cases hm : m = 0
    · subst hm
      have e1 := h4.2 ⟨rfl, rfl⟩
      rw [e1]; exact RowQ.nil Q w'
    · have hr' := run_append_nil (P := P) w t ty e i z ht hi hz a m c news hl hnews (by omega) (by omega) (by have hb := hbytes; simp only [Nat.zero_add] at hb; omega)
      rw [hr] at hr'
      cases hr'
      intro g hg j u hu
      cases hg
      have := cell_in (heap_alloc_new w.drew _) hu
      simp only [Array.toList_append, List.mem_append] at this
      rcases this with h | h
      · exact hQn u h
      · exact hQz u (zero_in h)
  · by_cases hroom : n + m ≤ cap
    · have hfit : n * i.size + news.length ≤ cur.size := by rw [hl, hcs, ← Nat.add_mul]; exact Nat.mul_le_mul_right _ hroom
      have hr' := run_append_room (P := P) w t ty e i ht hi g n cap cur hg a m c news hl hnews h1 hroom hfit
      rw [hr] at hr'
      cases hr'
      have hcur : ∀ u ∈ cur.toList, Q u := fun u hu => by
        obtain ⟨j, hj⟩ := List.getElem?_of_mem hu
        refine hQ g rfl j u ?_
        simp only [World.cell?, hg]
        rw [Array.getElem?_toList] at hj
        simpa using hj
      intro g' hg' j u hu
      cases hg'
      have := cell_in (setRow_heap w g cur _ e _ hg) hu
      simp only [List.mem_append] at this
      rcases this with (h | h) | h
      · exact hcur u (List.mem_of_mem_take h)
      · exact hQn u h
      · exact hcur u (List.mem_of_mem_drop h)
    · have holds : ∀ j u, xs[j]? = some u → w.cell? ((⟨g, 0, none⟩ : Addr).add j) = some u := hown.cells (g := g) rfl
      have hr' := run_append_grow (P := P) w t ty e i z ht hi hz ⟨g, 0, none⟩ n cap xs hown.1 holds a m c news hl hnews (by omega) (by omega) (growslice_fits (by omega) hbytes)
      rw [hr] at hr'
      cases hr'
      intro g' hg' j u hu
      cases hg'
      have := cell_in (heap_alloc_new w.drew _) hu
      simp only [Array.toList_append, List.mem_append] at this
      rcases this with (h | h) | h
      · exact hxs u h
      · exact hQn u h
      · exact hQz u (zero_in h)
theorem wpList_append_q {P : Program} (Q : Value → Prop) {w : World} {ops : Array Oper} {rest : List Oper} {o : Oper} {a : Act} {Q' : Exit → Act → World → Prop} (hgd : o.guard = none) (s x : Operand) (t : TypeId)
    (ho : o.op = .call { callee := .builtin .append, args := #[s, x], argTypes := #[t, t] })
    (base : Nat) (e : TypeId) {z : Value} {size bytes : Nat} (ht : P.underlying t = some (.slice e)) (hinfo : (P.info? e).map (fun i => (i.zero, i.size, i.bytes)) = some (some z, size, bytes))
    (hzs : z.cells.size = size) (hsz : 0 < size)
    {v : Value} {n : Nat} {xs : List Value} (hs : a.eval s = v) (hown : w.ownsRow base e size v n xs)
    {ad : Addr} {m c : Nat} {news : List Value} (hx : a.eval x = .slice (some ad) m c) (hsl : Sl w (.slice (some ad) m c) m news) (hl : news.length = m * size) (h1 : ∀ u ∈ news, u.oneCell' = true)
    (h63 : n + m ≤ maxLen) (hbytes : (n + m) * bytes ≤ 140737488355328) (hbase : base ≤ w.heap.size) (hQ : RowQ Q w v) (hQz : ∀ u ∈ z.cells.toList, Q u) (hQn : ∀ u ∈ news, Q u)
    (h : ∀ v' w', w'.ownsRow base e size v' (n + m) (xs ++ news) → w.grownBy w' v.ownBlock → (v'.ownBlock = v.ownBlock ∨ v'.ownBlock = some w.heap.size) → RowQ Q w' v' → wpList P ops Q' rest (a.put o.dst v') w') : wpList P ops Q' (o :: rest) a w := by
  refine wpList_plain hgd fun K hK => ?_
  obtain ⟨i, hi, hz0, hz1, hz2⟩ := info_parts hinfo
  rcases hsl.src with ⟨h0, _⟩ | ⟨ad', c', e', hnews⟩
  · cases h0
  · cases e'
    obtain ⟨v', w', hr, h2, h3, h5, h6⟩ := run_append_q (P := P) Q w base t o.type e i z size bytes ht hi hz0 hz1 hz2 hzs hsz v n xs hown ad m c news hl hnews h1 h63 hbytes hbase hQ hQz hQn
    unfold Oper.wp execOp
    simp only [ho, resolve, invoke, builtin, Sem.run_bind, Sem.run_pure, Result.andThen_ok, List.map_toArray, List.map_cons, List.map_nil, hs, hx, hr]
    exact hK _ _ (h v' w' h2 h3 h5 h6)
end Go.Proofs.YtiieckboccbhhaaGreatDoor
namespace Go.Proofs.YtiieckboccbhhaaGreatDoor
open Go.RowKit
namespace Nt
abbrev f3V (t : F3) : Value := .agg #[.bool t.b, .slice t.a1 t.n1 t.c1, .slice t.a2 t.n2 t.c2]
theorem noI_all {A : Array Value} (h : A.all (fun u => !isI u) = true) : NoI A := fun j u hu => by
  have h1 := Array.all_eq_true_iff_forall_mem.1 h u (Array.mem_of_getElem? hu)
  simpa using h1
theorem wp_frs2 {P : Program} {c : Code} {Q : Exit → Act → World → Prop} {a : Act} {w : World} {A B : Array Value} {t u : TypeId}
    (h : ∀ W, Below w.heap.size w W → RH W w.heap.size A t → RH W (w.heap.size + 1) B u → c.wp P Q a W) : c.wp P Q a ((w.alloc (.cells A t)).alloc (.cells B u)) := by
  refine h _ (by go_grown) ((RH.new w A t).ext (ext_alloc _ _)) ?_
  have := RH.new (w.alloc (.cells A t)) B u
  simpa using this
theorem wp_frs3 {P : Program} {c : Code} {Q : Exit → Act → World → Prop} {a : Act} {w : World} {A B C : Array Value} {t u v : TypeId}
    (h : ∀ W, Below w.heap.size w W → RH W w.heap.size A t → RH W (w.heap.size + 1) B u → RH W (w.heap.size + 2) C v → c.wp P Q a W) : c.wp P Q a (((w.alloc (.cells A t)).alloc (.cells B u)).alloc (.cells C v)) := by
  refine h _ (by go_grown) (((RH.new w A t).ext (ext_alloc _ _)).ext (ext_alloc _ _)) ?_ ?_
  · have := (RH.new (w.alloc (.cells A t)) B u).ext (ext_alloc _ (.cells C v))
    simpa using this
  · have := RH.new ((w.alloc (.cells A t)).alloc (.cells B u)) C v
    simpa using this
/-- what the methods give -/
def FcPost (w : World) (b : Bool) (n d : Nat) (e : Ending) (w' : World) : Prop := ∃ t, e = .returned (f3V t) ∧ t.b = b ∧ FX w' t n d ∧ Below w.heap.size w w'
def SimPost (w : World) (b : Bool) (n d : Nat) (e : Ending) (w' : World) : Prop := ∃ t n' d', e = .returned (f3V t) ∧ Sim b n d t.b n' d' ∧ FX w' t n' d' ∧ Below w.heap.size w w'
theorem fr_info : (Tryz.prog.info? 48).map (fun i => (i.zero, i.size, i.bytes)) = some (some (.agg #[.bool false, .slice none 0 0, .slice none 0 0]), 3, 56) := by kernel_rfl
theorem WL.snoc {w : World} {ts : List F3} {l : List Nat} (h : WL w ts l) {t : F3} {n : Nat} (hb : t.b = false) (hx : FX w t n 1) : WL w (ts ++ [t]) (l ++ [n]) := by
  refine ⟨by simp [h.len], fun i t' n' h1 h2 => ?_⟩
  rcases Nat.lt_or_ge i ts.length with hi | hi
  · rw [List.getElem?_append_left hi] at h1
    rw [List.getElem?_append_left (by rw [← h.len]; exact hi)] at h2
    exact h.ok i t' n' h1 h2
  · rw [List.getElem?_append_right hi] at h1
    rw [List.getElem?_append_right (by rw [← h.len]; exact hi), ← h.len] at h2
    have h0 : i - ts.length = 0 := by
      rcases Nat.eq_zero_or_pos (i - ts.length) with h0 | h0
      · exact h0
      · rw [List.getElem?_eq_none (by simp; omega)] at h1; cases h1
    rw [h0] at h1 h2
    cases h1
    cases h2
    exact ⟨hb, hx⟩
end Nt
end Go.Proofs.YtiieckboccbhhaaGreatDoor
