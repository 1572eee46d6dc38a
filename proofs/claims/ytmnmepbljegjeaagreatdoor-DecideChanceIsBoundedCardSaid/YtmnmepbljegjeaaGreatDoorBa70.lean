/- append onto a row of the call's own, with a word on all cells of the row's block: no program stands in it. -/
import Derived.Test.YtmnmepbljegjeaaGreatDoorBa01
import Derived.Maps.AppendAt
namespace Go.Proofs.YtmnmepbljegjeaaGreatDoor
open Go.RowKit
/-- all cells of the block in which the slice's row lies are such -/
def RowQ (Q : Value → Prop) (w : World) (v : Value) : Prop := ∀ g, v.ownBlock = some g → ∀ (j : Nat) (u : Value), w.cell? ⟨g, j, none⟩ = some u → Q u
theorem RowQ.nil (Q : Value → Prop) (w : World) : RowQ Q w (.slice none 0 0) := fun g e => by cases e
theorem RowQ.ext {Q : Value → Prop} {w w' : World} {base e size n : Nat} {v : Value} {xs : List Value} (h : RowQ Q w v) (ho : w.ownsRow base e size v n xs) (hb : Below w.heap.size w w') : RowQ Q w' v := fun g hg j u hu =>
  h g hg j u ((hb.cell (p := ⟨g, j, none⟩) (ho.lt g hg).2).symm.trans hu)
theorem cell_in {w : World} {g j : Nat} {cur : Array Value} {e : TypeId} {fr : Nat × Nat} {u : Value} (hg : w.heap[g]? = some (.cells cur e fr)) (h : w.cell? ⟨g, j, none⟩ = some u) : u ∈ cur.toList := by
  simp only [World.cell?, hg] at h
  have h' : cur[j]? = some u := by simpa using h
  rw [← Array.getElem?_toList] at h'
  exact List.mem_of_getElem? h'
theorem zero_in {cs : Array Value} {n : Nat} {u : Value} (h : u ∈ (Builtin.zeroCells cs n).toList) : u ∈ cs.toList := by
  unfold Builtin.zeroCells at h
  simp at h
  obtain ⟨a, h1, h2⟩ := h
  have hp : 0 < cs.size := by
    rcases Nat.eq_zero_or_pos cs.size with h0 | h0
    · rw [h0] at h1; simp at h1
    · exact h0
  have hlt : a % cs.size < cs.size := Nat.mod_lt _ hp
  rw [← h2, getElem!_pos cs _ hlt]
  simp
theorem row_of_cells {Q : Value → Prop} {w : World} {base e size n : Nat} {v : Value} {xs : List Value} (h : RowQ Q w v) (ho : w.ownsRow base e size v n xs) : ∀ u ∈ xs, Q u := by
  intro u hu
  obtain ⟨h1, ⟨rfl, rfl⟩ | ⟨g, cap, cur, rfl, hb, hg, hn, hm, hs, ht⟩⟩ := ho
  · have : xs = [] := List.length_eq_zero_iff.1 (by omega)
    subst this; cases hu
  · rw [← ht] at hu
    obtain ⟨j, hj⟩ := List.getElem?_of_mem (List.mem_of_mem_take hu)
    refine h g rfl j u ?_
    simp only [World.cell?, hg]
    rw [Array.getElem?_toList] at hj
    simpa using hj
theorem run_append_q {P : Program} (Q : Value → Prop) (w : World) (base : Nat) (t ty e : TypeId) (i : TypeInfo) (z : Value) (size bytes : Nat) (ht : P.underlying t = some (.slice e)) (hi : P.info? e = some i) (hz : i.zero = some z)
    (hsize : i.size = size) (hby : i.bytes = bytes) (hzs : z.cells.size = size) (hsz : 0 < size)
    (v : Value) (n : Nat) (xs : List Value) (hown : w.ownsRow base e size v n xs)
    (a : Addr) (m c : Nat) (news : List Value) (hl : news.length = m * size) (hnews : ∀ j u, news[j]? = some u → w.cell? (a.add j) = some u) (h1 : ∀ u ∈ news, u.oneCell' = true)
    (h63 : n + m ≤ maxLen) (hbytes : (n + m) * bytes ≤ 140737488355328) (hbase : base ≤ w.heap.size) (hQ : RowQ Q w v) (hQz : ∀ u ∈ z.cells.toList, Q u) (hQn : ∀ u ∈ news, Q u) :
    ∃ v' w', (Builtin.append_ #[t, t] ty #[v, .slice (some a) m c]).run P w = .ok v' w' ∧ w'.ownsRow base e size v' (n + m) (xs ++ news) ∧ w.grownBy w' v.ownBlock ∧
      (v'.ownBlock = v.ownBlock ∨ v'.ownBlock = some w.heap.size) ∧ RowQ Q w' v' := by
  obtain ⟨v', w', hr, h2, h3, h4, h5⟩ := run_append_own_at (P := P) w base t ty e i z size bytes ht hi hz hsize hby hzs hsz v n xs hown a m c news hl hnews h1 h63 hbytes hbase
  refine ⟨v', w', hr, h2, h3, h5, ?_⟩
  have hxs := row_of_cells hQ hown
  subst hsize
  subst hby
  have hsmall : n + m ≤ 9223372036854775807 := by simp only [maxLen] at h63; omega
  have fresh : ∀ (cs : List Value) (A : Array Value), (∀ u ∈ A.toList, Q u) → RowQ Q (w.drew.alloc (.cells A e)) (.slice (some ⟨w.heap.size, 0, none⟩) (n + m) cs.length) := fun cs A hA g hg j u hu => by
    cases hg
    exact hA u (cell_in (heap_alloc_new w.drew _) hu)
  rcases hown.2 with ⟨rfl, rfl⟩ | ⟨g, cap, cur, rfl, hbg, hg, hnc, hcm, hcs, htake⟩
  · by_cases hm : m = 0
    · subst hm
      have e1 := h4.2 ⟨rfl, rfl⟩
      rw [e1]; exact RowQ.nil Q w'
    · have hr' := run_append_nil (P := P) w t ty e i z ht hi hz a m c news hl hnews (by omega) (by omega) (by have hb := hbytes; simp only [Nat.zero_add] at hb; omega)
      rw [hr] at hr'
      cases hr'
      intro g hg j u hu
      cases hg
      have := cell_in (heap_alloc_new w.drew _) hu
      simp only [Array.toList_append, List.mem_append] at this
      rcases this with h | h
      · exact hQn u h
      · exact hQz u (zero_in h)
  · by_cases hroom : n + m ≤ cap
    · have hfit : n * i.size + news.length ≤ cur.size := by rw [hl, hcs, ← Nat.add_mul]; exact Nat.mul_le_mul_right _ hroom
      have hr' := run_append_room (P := P) w t ty e i ht hi g n cap cur hg a m c news hl hnews h1 hroom hfit
      rw [hr] at hr'
      cases hr'
      have hcur : ∀ u ∈ cur.toList, Q u := fun u hu => by
        obtain ⟨j, hj⟩ := List.getElem?_of_mem hu
        refine hQ g rfl j u ?_
        simp only [World.cell?, hg]
        rw [Array.getElem?_toList] at hj
        simpa using hj
      intro g' hg' j u hu
      cases hg'
      have := cell_in (setRow_heap w g cur _ e _ hg) hu
      simp only [List.mem_append] at this
      rcases this with (h | h) | h
      · exact hcur u (List.mem_of_mem_take h)
      · exact hQn u h
      · exact hcur u (List.mem_of_mem_drop h)
    · have holds : ∀ j u, xs[j]? = some u → w.cell? ((⟨g, 0, none⟩ : Addr).add j) = some u := hown.cells (g := g) rfl
      have hr' := run_append_grow (P := P) w t ty e i z ht hi hz ⟨g, 0, none⟩ n cap xs hown.1 holds a m c news hl hnews (by omega) (by omega) (growslice_fits (by omega) hbytes)
      rw [hr] at hr'
      cases hr'
      intro g' hg' j u hu
      cases hg'
      have := cell_in (heap_alloc_new w.drew _) hu
      simp only [Array.toList_append, List.mem_append] at this
      rcases this with (h | h) | h
      · exact hxs u h
      · exact hQn u h
      · exact hQz u (zero_in h)
/-- append at a step of a region that draws its order -/
theorem step_append_q {P : Program} (Q : Value → Prop) {w : World} {ops : Array Oper} {o : Oper} {a : Act} {K : Act → World → Prop} {Q' : Exit → Act → World → Prop} {E : Prop} (hgd : o.guard = none) (s x : Operand) (t : TypeId)
    (ho : o.op = .call { callee := .builtin .append, args := #[s, x], argTypes := #[t, t] })
    (base : Nat) (e : TypeId) {z : Value} {size bytes : Nat} (ht : P.underlying t = some (.slice e)) (hinfo : (P.info? e).map (fun i => (i.zero, i.size, i.bytes)) = some (some z, size, bytes))
    (hzs : z.cells.size = size) (hsz : 0 < size)
    {v : Value} {n : Nat} {xs : List Value} (hs : a.eval s = v) (hown : w.ownsRow base e size v n xs)
    {ad : Addr} {m c : Nat} {news : List Value} (hx : a.eval x = .slice (some ad) m c) (hsl : Sl w (.slice (some ad) m c) m news) (hl : news.length = m * size) (h1 : ∀ u ∈ news, u.oneCell' = true)
    (h63 : n + m ≤ maxLen) (hbytes : (n + m) * bytes ≤ 140737488355328) (hbase : base ≤ w.heap.size) (hQ : RowQ Q w v) (hQz : ∀ u ∈ z.cells.toList, Q u) (hQn : ∀ u ∈ news, Q u)
    (h : ∀ v' w', w'.ownsRow base e size v' (n + m) (xs ++ news) → w.grownBy w' v.ownBlock → (v'.ownBlock = v.ownBlock ∨ v'.ownBlock = some w.heap.size) → RowQ Q w' v' → K (a.put o.dst v') w') :
    if Region.wanted o (yielded ops a.tmps) = true then Oper.wp P o a w K Q' else E := by
  have hw : Region.wanted o (yielded ops a.tmps) = true := by simp [Region.wanted, hgd]
  rw [if_pos hw]
  obtain ⟨i, hi, hz0, hz1, hz2⟩ := info_parts hinfo
  rcases hsl.src with ⟨h0, _⟩ | ⟨ad', c', e', hnews⟩
  · cases h0
  · cases e'
    obtain ⟨v', w', hr, h2, h3, h5, h6⟩ := run_append_q (P := P) Q w base t o.type e i z size bytes ht hi hz0 hz1 hz2 hzs hsz v n xs hown ad m c news hl hnews h1 h63 hbytes hbase hQ hQz hQn
    unfold Oper.wp execOp
    simp only [ho, resolve, invoke, builtin, Sem.run_bind, Sem.run_pure, Result.andThen_ok, List.map_toArray, List.map_cons, List.map_nil, hs, hx, hr]
    exact h v' w' h2 h3 h5 h6
theorem wpList_append_q {P : Program} (Q : Value → Prop) {w : World} {ops : Array Oper} {rest : List Oper} {o : Oper} {a : Act} {Q' : Exit → Act → World → Prop} (hgd : o.guard = none) (s x : Operand) (t : TypeId)
    (ho : o.op = .call { callee := .builtin .append, args := #[s, x], argTypes := #[t, t] })
    (base : Nat) (e : TypeId) {z : Value} {size bytes : Nat} (ht : P.underlying t = some (.slice e)) (hinfo : (P.info? e).map (fun i => (i.zero, i.size, i.bytes)) = some (some z, size, bytes))
    (hzs : z.cells.size = size) (hsz : 0 < size)
    {v : Value} {n : Nat} {xs : List Value} (hs : a.eval s = v) (hown : w.ownsRow base e size v n xs)
    {ad : Addr} {m c : Nat} {news : List Value} (hx : a.eval x = .slice (some ad) m c) (hsl : Sl w (.slice (some ad) m c) m news) (hl : news.length = m * size) (h1 : ∀ u ∈ news, u.oneCell' = true)
    (h63 : n + m ≤ maxLen) (hbytes : (n + m) * bytes ≤ 140737488355328) (hbase : base ≤ w.heap.size) (hQ : RowQ Q w v) (hQz : ∀ u ∈ z.cells.toList, Q u) (hQn : ∀ u ∈ news, Q u)
    (h : ∀ v' w', w'.ownsRow base e size v' (n + m) (xs ++ news) → w.grownBy w' v.ownBlock → (v'.ownBlock = v.ownBlock ∨ v'.ownBlock = some w.heap.size) → RowQ Q w' v' → wpList P ops Q' rest (a.put o.dst v') w') : wpList P ops Q' (o :: rest) a w := by
  refine wpList_plain hgd fun K hK => ?_
  obtain ⟨i, hi, hz0, hz1, hz2⟩ := info_parts hinfo
  rcases hsl.src with ⟨h0, _⟩ | ⟨ad', c', e', hnews⟩
  · cases h0
  · cases e'
    obtain ⟨v', w', hr, h2, h3, h5, h6⟩ := run_append_q (P := P) Q w base t o.type e i z size bytes ht hi hz0 hz1 hz2 hzs hsz v n xs hown ad m c news hl hnews h1 h63 hbytes hbase hQ hQz hQn
    unfold Oper.wp execOp
    simp only [ho, resolve, invoke, builtin, Sem.run_bind, Sem.run_pure, Result.andThen_ok, List.map_toArray, List.map_cons, List.map_nil, hs, hx, hr]
    exact hK _ _ (h v' w' h2 h3 h5 h6)
end Go.Proofs.YtmnmepbljegjeaaGreatDoor
