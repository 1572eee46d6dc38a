/- What a part of a walk leaves of the world: all blocks but some, and all words. No program stands in it. (Several texts in one: AppQ, Kp, Fr.) -/
import Derived.Test.YtkinapdfmgfdfaaReg
import Derived.Maps.AppendAt
import Derived.Test.YtkinapdfmgfdfaaRat1
import Derived.Test.YtkinapdfmgfdfaaMapR
namespace Go.Proofs.Ytkinapdfmgfdfaa
open Go.RowKit
/-- all cells of the block in which the slice's row lies are such -/
def RowQ (Q : Value → Prop) (w : World) (v : Value) : Prop := ∀ g, v.ownBlock = some g → ∀ (j : Nat) (u : Value), w.cell? ⟨g, j, none⟩ = some u → Q u
theorem RowQ.nil (Q : Value → Prop) (w : World) : RowQ Q w (.slice none 0 0) := fun g e => by cases e
theorem RowQ.ext {Q : Value → Prop} {w w' : World} {base e size n : Nat} {v : Value} {xs : List Value} (h : RowQ Q w v) (ho : w.ownsRow base e size v n xs) (hb : Below w.heap.size w w') : RowQ Q w' v := fun g hg j u hu =>
  h g hg j u ((hb.cell (p := ⟨g, j, none⟩) (ho.lt g hg).2).symm.trans hu)
theorem cell_in {w : World} {g j : Nat} {cur : Array Value} {e : TypeId} {fr : Nat × Nat} {u : Value} (hg : w.heap[g]? = some (.cells cur e fr)) (h : w.cell? ⟨g, j, none⟩ = some u) : u ∈ cur.toList := by
  simp only [World.cell?, hg] at h
  have h' : cur[j]? = some u := by simpa using h
  rw [← Array.getElem?_toList] at h'
  exact List.mem_of_getElem? h'
theorem zero_in {cs : Array Value} {n : Nat} {u : Value} (h : u ∈ (Builtin.zeroCells cs n).toList) : u ∈ cs.toList := by
  unfold Builtin.zeroCells at h
  simp at h
  obtain ⟨a, h1, h2⟩ := h
  have hp : 0 < cs.size := by
    rcases Nat.eq_zero_or_pos cs.size with h0 | h0
    · rw [h0] at h1; simp at h1
    · exact h0
  have hlt : a % cs.size < cs.size := Nat.mod_lt _ hp
  rw [← h2, getElem!_pos cs _ hlt]
  simp
theorem row_of_cells {Q : Value → Prop} {w : World} {base e size n : Nat} {v : Value} {xs : List Value} (h : RowQ Q w v) (ho : w.ownsRow base e size v n xs) : ∀ u ∈ xs, Q u := by
  intro u hu
  obtain ⟨h1, ⟨rfl, rfl⟩ | ⟨g, cap, cur, rfl, hb, hg, hn, hm, hs, ht⟩⟩ := ho
  · have : xs = [] := List.length_eq_zero_iff.1 (by omega)
    subst this; cases hu
  · rw [← ht] at hu
    obtain ⟨j, hj⟩ := List.getElem?_of_mem (List.mem_of_mem_take hu)
    refine h g rfl j u ?_
    simp only [World.cell?, hg]
    rw [Array.getElem?_toList] at hj
    simpa using hj
theorem run_append_q {P : Program} (Q : Value → Prop) (w : World) (base : Nat) (t ty e : TypeId) (i : TypeInfo) (z : Value) (size bytes : Nat) (ht : P.underlying t = some (.slice e)) (hi : P.info? e = some i) (hz : i.zero = some z)
    (hsize : i.size = size) (hby : i.bytes = bytes) (hzs : z.cells.size = size) (hsz : 0 < size)
    (v : Value) (n : Nat) (xs : List Value) (hown : w.ownsRow base e size v n xs)
    (a : Addr) (m c : Nat) (news : List Value) (hl : news.length = m * size) (hnews : ∀ j u, news[j]? = some u → w.cell? (a.add j) = some u) (h1 : ∀ u ∈ news, u.oneCell' = true)
    (h63 : n + m ≤ maxLen) (hbytes : (n + m) * bytes ≤ 140737488355328) (hbase : base ≤ w.heap.size) (hQ : RowQ Q w v) (hQz : ∀ u ∈ z.cells.toList, Q u) (hQn : ∀ u ∈ news, Q u) :
    ∃ v' w', (Builtin.append_ #[t, t] ty #[v, .slice (some a) m c]).run P w = .ok v' w' ∧ w'.ownsRow base e size v' (n + m) (xs ++ news) ∧ w.grownBy w' v.ownBlock ∧
      (v'.ownBlock = v.ownBlock ∨ v'.ownBlock = some w.heap.size) ∧ RowQ Q w' v' := by
  obtain ⟨v', w', hr, h2, h3, h4, h5⟩ := run_append_own_at (P := P) w base t ty e i z size bytes ht hi hz hsize hby hzs hsz v n xs hown a m c news hl hnews h1 h63 hbytes hbase
  refine ⟨v', w', hr, h2, h3, h5, ?_⟩
  have hxs := row_of_cells hQ hown
  subst hsize
  subst hby
  have hsmall : n + m ≤ 9223372036854775807 := by simp only [maxLen] at h63; omega
  have fresh : ∀ (cs : List Value) (A : Array Value), (∀ u ∈ A.toList, Q u) → RowQ Q (w.drew.alloc (.cells A e)) (.slice (some ⟨w.heap.size, 0, none⟩) (n + m) cs.length) := fun cs A hA g hg j u hu => by
    cases hg
    exact hA u (cell_in (heap_alloc_new w.drew _) hu)
  rcases hown.2 with ⟨rfl, rfl⟩ | ⟨g, cap, cur, rfl, hbg, hg, hnc, hcm, hcs, htake⟩
  · by_cases hm : m = 0
    · subst hm
      have e1 := h4.2 ⟨rfl, rfl⟩
      rw [e1]; exact RowQ.nil Q w'
    · have hr' := run_append_nil (P := P) w t ty e i z ht hi hz a m c news hl hnews (by omega) (by omega) (by have hb := hbytes; simp only [Nat.zero_add] at hb; omega)
      rw [hr] at hr'
      cases hr'
      intro g hg j u hu
      cases hg
      have := cell_in (heap_alloc_new w.drew _) hu
      simp only [Array.toList_append, List.mem_append] at this
      rcases this with h | h
      · exact hQn u h
      · exact hQz u (zero_in h)
  · by_cases hroom : n + m ≤ cap
    · have hfit : n * i.size + news.length ≤ cur.size := by rw [hl, hcs, ← Nat.add_mul]; exact Nat.mul_le_mul_right _ hroom
      have hr' := run_append_room (P := P) w t ty e i ht hi g n cap cur hg a m c news hl hnews h1 hroom hfit
      rw [hr] at hr'
      cases hr'
      have hcur : ∀ u ∈ cur.toList, Q u := fun u hu => by
        obtain ⟨j, hj⟩ := List.getElem?_of_mem hu
        refine hQ g rfl j u ?_
        simp only [World.cell?, hg]
        rw [Array.getElem?_toList] at hj
        simpa using hj
      intro g' hg' j u hu
      cases hg'
      have := cell_in (setRow_heap w g cur _ e _ hg) hu
      simp only [List.mem_append] at this
      rcases this with (h | h) | h
      · exact hcur u (List.mem_of_mem_take h)
      · exact hQn u h
      · exact hcur u (List.mem_of_mem_drop h)
    · have holds : ∀ j u, xs[j]? = some u → w.cell? ((⟨g, 0, none⟩ : Addr).add j) = some u := hown.cells (g := g) rfl
      have hr' := run_append_grow (P := P) w t ty e i z ht hi hz ⟨g, 0, none⟩ n cap xs hown.1 holds a m c news hl hnews (by omega) (by omega) (growslice_fits (by omega) hbytes)
      rw [hr] at hr'
      cases hr'
      intro g' hg' j u hu
      cases hg'
      have := cell_in (heap_alloc_new w.drew _) hu
      simp only [Array.toList_append, List.mem_append] at this
      rcases this with (h | h) | h
      · exact hxs u h
      · exact hQn u h
      · exact hQz u (zero_in h)
/-- append at a step of a region that draws its order -/
theorem step_append_q {P : Program} (Q : Value → Prop) {w : World} {ops : Array Oper} {o : Oper} {a : Act} {K : Act → World → Prop} {Q' : Exit → Act → World → Prop} {E : Prop} (hgd : o.guard = none) (s x : Operand) (t : TypeId)
    (ho : o.op = .call { callee := .builtin .append, args := #[s, x], argTypes := #[t, t] })
    (base : Nat) (e : TypeId) {z : Value} {size bytes : Nat} (ht : P.underlying t = some (.slice e)) (hinfo : (P.info? e).map (fun i => (i.zero, i.size, i.bytes)) = some (some z, size, bytes))
    (hzs : z.cells.size = size) (hsz : 0 < size)
    {v : Value} {n : Nat} {xs : List Value} (hs : a.eval s = v) (hown : w.ownsRow base e size v n xs)
    {ad : Addr} {m c : Nat} {news : List Value} (hx : a.eval x = .slice (some ad) m c) (hsl : Sl w (.slice (some ad) m c) m news) (hl : news.length = m * size) (h1 : ∀ u ∈ news, u.oneCell' = true)
    (h63 : n + m ≤ maxLen) (hbytes : (n + m) * bytes ≤ 140737488355328) (hbase : base ≤ w.heap.size) (hQ : RowQ Q w v) (hQz : ∀ u ∈ z.cells.toList, Q u) (hQn : ∀ u ∈ news, Q u)
    (h : ∀ v' w', w'.ownsRow base e size v' (n + m) (xs ++ news) → w.grownBy w' v.ownBlock → (v'.ownBlock = v.ownBlock ∨ v'.ownBlock = some w.heap.size) → RowQ Q w' v' → K (a.put o.dst v') w') :
    if Region.wanted o (yielded ops a.tmps) = true then Oper.wp P o a w K Q' else E := by
  have hw : Region.wanted o (yielded ops a.tmps) = true := by simp [Region.wanted, hgd]
  rw [if_pos hw]
  obtain ⟨i, hi, hz0, hz1, hz2⟩ := info_parts hinfo
  rcases hsl.src with ⟨h0, _⟩ | ⟨ad', c', e', hnews⟩
  · cases h0
  · cases e'
    obtain ⟨v', w', hr, h2, h3, h5, h6⟩ := run_append_q (P := P) Q w base t o.type e i z size bytes ht hi hz0 hz1 hz2 hzs hsz v n xs hown ad m c news hl hnews h1 h63 hbytes hbase hQ hQz hQn
    unfold Oper.wp execOp
    simp only [ho, resolve, invoke, builtin, Sem.run_bind, Sem.run_pure, Result.andThen_ok, List.map_toArray, List.map_cons, List.map_nil, hs, hx, hr]
    exact h v' w' h2 h3 h5 h6
theorem wpList_append_q {P : Program} (Q : Value → Prop) {w : World} {ops : Array Oper} {rest : List Oper} {o : Oper} {a : Act} {Q' : Exit → Act → World → Prop} (hgd : o.guard = none) (s x : Operand) (t : TypeId)
    (ho : o.op = .call { callee := .builtin .append, args := #[s, x], argTypes := #[t, t] })
    (base : Nat) (e : TypeId) {z : Value} {size bytes : Nat} (ht : P.underlying t = some (.slice e)) (hinfo : (P.info? e).map (fun i => (i.zero, i.size, i.bytes)) = some (some z, size, bytes))
    (hzs : z.cells.size = size) (hsz : 0 < size)
    {v : Value} {n : Nat} {xs : List Value} (hs : a.eval s = v) (hown : w.ownsRow base e size v n xs)
    {ad : Addr} {m c : Nat} {news : List Value} (hx : a.eval x = .slice (some ad) m c) (hsl : Sl w (.slice (some ad) m c) m news) (hl : news.length = m * size) (h1 : ∀ u ∈ news, u.oneCell' = true)
    (h63 : n + m ≤ maxLen) (hbytes : (n + m) * bytes ≤ 140737488355328) (hbase : base ≤ w.heap.size) (hQ : RowQ Q w v) (hQz : ∀ u ∈ z.cells.toList, Q u) (hQn : ∀ u ∈ news, Q u)
    (h : ∀ v' w', w'.ownsRow base e size v' (n + m) (xs ++ news) → w.grownBy w' v.ownBlock → (v'.ownBlock = v.ownBlock ∨ v'.ownBlock = some w.heap.size) → RowQ Q w' v' → wpList P ops Q' rest (a.put o.dst v') w') : wpList P ops Q' (o :: rest) a w := by
  refine wpList_plain hgd fun K hK => ?_
  obtain ⟨i, hi, hz0, hz1, hz2⟩ := info_parts hinfo
  rcases hsl.src with ⟨h0, _⟩ | ⟨ad', c', e', hnews⟩
  · cases h0
  · cases e'
    obtain ⟨v', w', hr, h2, h3, h5, h6⟩ := run_append_q (P := P) Q w base t o.type e i z size bytes ht hi hz0 hz1 hz2 hzs hsz v n xs hown ad m c news hl hnews h1 h63 hbytes hbase hQ hQz hQn
    unfold Oper.wp execOp
    simp only [ho, resolve, invoke, builtin, Sem.run_bind, Sem.run_pure, Result.andThen_ok, List.map_toArray, List.map_cons, List.map_nil, hs, hx, hr]
    exact hK _ _ (h v' w' h2 h3 h5 h6)
end Go.Proofs.Ytkinapdfmgfdfaa
namespace Go.Proofs.Ytkinapdfmgfdfaa
open Go.RowKit
namespace Nm
/-- Every word of w is there in w'. -/
def Kp (w w' : World) : Prop := w.heap.size ≤ w'.heap.size ∧ ∀ (a : Addr) (z : Int), w.cell? a = some (.int .u32 z) → w'.cell? a = some (.int .u32 z)
theorem Kp.refl (w : World) : Kp w w := ⟨Nat.le_refl _, fun _ _ h => h⟩
theorem Kp.trans {a b c : World} (h : Kp a b) (k : Kp b c) : Kp a c := ⟨Nat.le_trans h.1 k.1, fun p z hp => k.2 p z (h.2 p z hp)⟩
theorem Kp.ext {w w' : World} (h : Below w.heap.size w w') : Kp w w' := ⟨h.size, fun a z ha => (h.cell (World.block_lt_of_cell? w _ ha)).trans ha⟩
theorem Kp.turned {w w' : World} {b : Nat} (h : w.mapTurned w' b) : Kp w w' := ⟨by rw [turned_size h]; exact Nat.le_refl _, fun a z ha => (turned_cell h a).trans ha⟩
theorem Kp.stepped {w w' : World} {it : Nat} (h : Stepped it w w') : Kp w w' := ⟨by rw [h.size]; exact Nat.le_refl _, fun a z ha => (h.cell a).trans ha⟩
theorem Kp.setCell {w : World} {p : Addr} {u : Value} (hu : w.cell? p = some u) (hn : isWord u = false) (v : Value) : Kp w (w.setCell p v) := by
  refine ⟨by simp, fun a z ha => ?_⟩
  have hne : p ≠ a := fun e => by subst e; rw [hu] at ha; cases ha; cases hn
  rw [World.cell?_setCell_other _ _ _ _ hne]; exact ha
theorem N.kp {w w' : World} {v : Value} {n : Nat} (h : N w v n) (hk : Kp w w') : N w' v n := by
  obtain ⟨a, cap, hv, h1, h2, h0, h3⟩ := h
  refine ⟨a, cap, hv, h1, h2, h0, fun i x hx => ?_⟩
  obtain ⟨b, o, ha, hc⟩ := h3 i x hx
  refine ⟨b, o, ha, ?_⟩
  have hi : i < (digs n).length := by have := (List.getElem?_eq_some_iff.1 hx).1; rwa [wcs_length] at this
  rw [wcs_get hi] at hx
  cases hx
  exact hk.2 _ _ hc
theorem XR.kp {w w' : World} {v : Value} {q : Rat} (h : XR w v q) (hk : Kp w w') : XR w' v q := by
  obtain ⟨v1, v2, h0, h1, h2⟩ := h; exact ⟨v1, v2, h0, h1.kp hk, h2.kp hk⟩
/-- a row of the call's own without words has grown -/
theorem Kp.grown {w w' : World} {v : Value} (hg : w.grownBy w' v.ownBlock) (hq : RowQ (fun u => isWord u = false) w v) : Kp w w' := by
  refine ⟨hg.size, fun a z ha => ?_⟩
  have hlt := World.block_lt_of_cell? w _ ha
  by_cases he : v.ownBlock = some a.block
  · exfalso
    obtain ⟨b, o, s⟩ := a
    cases s with
    | none => have := hq b he o _ ha; cases this
    | some s => simp only [World.cell?] at ha; split at ha <;> simp at ha
  · rw [World.cell?_of_block (w := w) (hg.block a.block hlt (fun e => he e.symm))]; exact ha
/-- three cells of a block without words, written -/
theorem Kp.set3 {w : World} {b : Nat} {A : Array Value} (hA : Box w b A) (hn : ∀ (j : Nat) (u : Value), A[j]? = some u → isWord u = false) (v0 v1 v2 : Value) : Kp w (((w.setCell ⟨b, 0, none⟩ v0).setCell ⟨b, 1, none⟩ v1).setCell ⟨b, 2, none⟩ v2) := by
  refine ⟨by simp, fun a z ha => ?_⟩
  have hne : a.block ≠ b := fun e => by
    obtain ⟨b', o, s⟩ := a
    subst e
    cases s with
    | none => rw [hA.2 o] at ha; have := hn _ _ ha; cases this
    | some s => simp only [World.cell?] at ha; split at ha <;> simp at ha
  rw [set3_other _ _ _ a hne]; exact ha
end Nm
end Go.Proofs.Ytkinapdfmgfdfaa
namespace Go.Proofs.Ytkinapdfmgfdfaa
open Go.RowKit
open Nm
structure Fr (X : Nat → Prop) (w w' : World) : Prop where
  os : w'.os = w.os
  tape : w'.tape = w.tape
  output : w'.output = w.output
  block : ∀ k, k < w.heap.size → ¬ X k → w'.heap[k]? = w.heap[k]?
  word : Kp w w'
variable {X Y : Nat → Prop} {w w' w'' : World}
theorem Fr.refl (X : Nat → Prop) (w : World) : Fr X w w := ⟨rfl, rfl, rfl, fun _ _ _ => rfl, Kp.refl w⟩
theorem Fr.size (h : Fr X w w') : w.heap.size ≤ w'.heap.size := h.word.1
theorem Fr.trans (h : Fr X w w') (k : Fr X w' w'') : Fr X w w'' :=
  ⟨k.os.trans h.os, k.tape.trans h.tape, k.output.trans h.output, fun i hi hX => (k.block i (Nat.lt_of_lt_of_le hi h.size) hX).trans (h.block i hi hX), h.word.trans k.word⟩
theorem Fr.mono (h : Fr X w w') (hY : ∀ k, X k → Y k) : Fr Y w w' := ⟨h.os, h.tape, h.output, fun i hi hX => h.block i hi (fun x => hX (hY i x)), h.word⟩
/-- more may turn, where it was not there -/
theorem Fr.weak (h : Fr Y w w') (hY : ∀ k, k < w.heap.size → Y k → X k) : Fr X w w' := ⟨h.os, h.tape, h.output, fun i hi hX => h.block i hi (fun y => hX (hY i hi y)), h.word⟩
theorem Fr.ext (hb : Below w.heap.size w w') : Fr X w w' := ⟨hb.os, hb.tape, hb.output, fun k hk _ => hb.block k hk, Kp.ext hb⟩
theorem Fr.turned {b : Nat} (h : w.mapTurned w' b) (hX : X b) : Fr X w w' := by
  refine ⟨?_, ?_, ?_, fun k _ hk => ?_, Kp.turned h⟩
  · obtain ⟨_, _, _, _, _, rfl⟩ := h; rfl
  · obtain ⟨_, _, _, _, _, rfl⟩ := h; rfl
  · obtain ⟨_, _, _, _, _, rfl⟩ := h; rfl
  · obtain ⟨es, c, es', c', h1, rfl⟩ := h
    simp only [ChangeMaps.setBlock, Array.getElem?_setIfInBounds]
    rw [if_neg (fun e : b = k => hk (by rw [← e]; exact hX))]
theorem Fr.stepped {it : Nat} (h : Stepped it w w') (hX : X it) : Fr X w w' :=
  ⟨h.below.os, h.below.tape, h.below.output, fun k _ hk => h.block k (fun e => hk (e ▸ hX)), Kp.stepped h⟩
theorem Fr.set3 {b : Nat} {A : Array Value} (hA : Box w b A) (hn : ∀ (j : Nat) (u : Value), A[j]? = some u → isWord u = false) (v0 v1 v2 : Value) (hX : X b) : Fr X w (((w.setCell ⟨b, 0, none⟩ v0).setCell ⟨b, 1, none⟩ v1).setCell ⟨b, 2, none⟩ v2) := by
  have hb : ∀ k, k ≠ b → (((w.setCell ⟨b, 0, none⟩ v0).setCell ⟨b, 1, none⟩ v1).setCell ⟨b, 2, none⟩ v2).heap[k]? = w.heap[k]? := fun k hk => by
    rw [heap_setCell_other _ _ _ _ hk, heap_setCell_other _ _ _ _ hk, heap_setCell_other _ _ _ _ hk]
  have hB := (((Below.refl 0 w).setCell (p := ⟨b, 0, none⟩) (Nat.zero_le _) v0).setCell (p := ⟨b, 1, none⟩) (Nat.zero_le _) v1).setCell (p := ⟨b, 2, none⟩) (Nat.zero_le _) v2
  exact ⟨hB.os, hB.tape, hB.output, fun k _ hk => hb k (fun e => hk (e ▸ hX)), Kp.set3 hA hn v0 v1 v2⟩
theorem Fr.grown {v : Value} (hg : w.grownBy w' v.ownBlock) (hq : RowQ (fun u => isWord u = false) w v) (hX : ∀ k, v.ownBlock = some k → X k) : Fr X w w' := by
  have hB := (Below.refl 0 w).grown hg (Nat.zero_le _) (fun _ _ => Nat.zero_le _)
  exact ⟨hB.os, hB.tape, hB.output, fun k hk hx => hg.block k hk (fun e => hx (hX k e.symm)), Kp.grown hg hq⟩
theorem Fr.below {B : Nat} (h : Fr X w w') (hB : B ≤ w.heap.size) (hX : ∀ k, X k → B ≤ k) : Below B w w' :=
  ⟨h.os, h.tape, h.output, h.size, fun k hk => h.block k (Nat.lt_of_lt_of_le hk hB) (fun x => by have := hX k x; omega)⟩
theorem Fr.cell (h : Fr X w w') (p : Addr) (hp : p.block < w.heap.size) (hX : ¬ X p.block) : w'.cell? p = w.cell? p := World.cell?_of_block (w := w) (h.block p.block hp hX)
theorem Fr.frozen (h : Fr X w w') (p : Addr) (hp : p.block < w.heap.size) (hX : ¬ X p.block) : w'.frozen? p = w.frozen? p := by
  simp only [World.frozen?, h.block p.block hp hX]
theorem Fr.box {b : Nat} {A : Array Value} (h : Fr X w w') (hA : Box w b A) (hX : ¬ X b) : Box w' b A :=
  ⟨Nat.lt_of_lt_of_le hA.1 h.size, fun j => (h.cell ⟨b, j, none⟩ hA.1 hX).trans (hA.2 j)⟩
theorem Fr.fre {b : Nat} {A : Array Value} (h : Fr X w w') (hA : Box w b A) (hF : Fre w b) (hX : ¬ X b) : Fre w' b :=
  fun j => (h.frozen ⟨b, j, none⟩ hA.1 hX).trans (hF j)
theorem Fr.xr {v : Value} {q : Rat} (h : Fr X w w') (hx : XR w v q) : XR w' v q := hx.kp h.word
theorem Fr.map {α β : Type} {kv : α → Value} {vv : β → Value} {m : Nat} {l : List (α × β)} (h : Fr X w w') (hm : MapIs kv vv w m l) (hX : ¬ X m) : MapIs kv vv w' m l := by
  have hlt := hm.lt
  obtain ⟨es, clock, h1, h2⟩ := hm
  exact ⟨es, clock, (h.block m hlt hX).trans h1, h2⟩
theorem Fr.range {α β : Type} {kv : α → Value} {vv : β → Value} {m it : Nat} {l done : List (α × β)} (h : Fr X w w') (hr : RangeIs kv vv w m it l done) (h1 : ¬ X m) (h2 : ¬ X it) : RangeIs kv vv w' m it l done :=
  hr.keep (h.block _ hr.lt.1 h1) (h.block _ hr.lt.2 h2)
theorem Fr.owns {base e size n : Nat} {v : Value} {xs : List Value} (h : Fr X w w') (ho : w.ownsRow base e size v n xs) (hX : ∀ k, v.ownBlock = some k → ¬ X k) : w'.ownsRow base e size v n xs := by
  obtain ⟨h1, h2⟩ := ho
  refine ⟨h1, ?_⟩
  rcases h2 with h2 | ⟨g, cap, cur, rfl, hbg, hg, h3⟩
  · exact .inl h2
  · refine .inr ⟨g, cap, cur, rfl, hbg, ?_, h3⟩
    rw [h.block g (Array.getElem?_eq_some_iff.1 hg).1 (hX g rfl)]; exact hg
theorem Fr.rowQ {Q : Value → Prop} {base e size n : Nat} {v : Value} {xs : List Value} (h : Fr X w w') (hq : RowQ Q w v) (ho : w.ownsRow base e size v n xs) (hX : ∀ k, v.ownBlock = some k → ¬ X k) : RowQ Q w' v := fun g hg j u hu =>
  hq g hg j u ((h.cell ⟨g, j, none⟩ (ho.lt g hg).2 (hX g hg)).symm.trans hu)
theorem Fr.sl {v : Value} {n : Nat} {cs : List Value} (h : Fr X w w') (hs : Sl w v n cs) (hX : ∀ b o, (∃ i cap, v = .slice (some ⟨b, o, none⟩) i cap) → ¬ X b) : Sl w' v n cs := by
  obtain ⟨a, cap, hv, h1, h2, h0, h3⟩ := hs
  refine ⟨a, cap, hv, h1, h2, h0, fun i x hx => ?_⟩
  obtain ⟨b, o, ha, hc⟩ := h3 i x hx
  exact ⟨b, o, ha, (h.cell ⟨b, o + i, none⟩ (World.block_lt_of_cell? w _ hc) (hX b o ⟨n, cap, by rw [hv, ha]⟩)).trans hc⟩
/-- a block of cells is no map, and no iterator -/
theorem Box.ne_map {α β : Type} {kv : α → Value} {vv : β → Value} {b m : Nat} {A : Array Value} {l : List (α × β)} (hA : Box w b A) (h0 : 0 < A.size) (hm : MapIs kv vv w m l) : b ≠ m := by
  rintro rfl
  obtain ⟨es, clock, h1, _⟩ := hm
  have := hA.2 0
  simp only [World.cell?, h1] at this
  rw [Array.getElem?_eq_getElem h0] at this
  cases this
theorem Box.ne_it {α β : Type} {kv : α → Value} {vv : β → Value} {b m it : Nat} {A : Array Value} {l done : List (α × β)} (hA : Box w b A) (h0 : 0 < A.size) (hr : RangeIs kv vv w m it l done) : b ≠ it := by
  rintro rfl
  obtain ⟨_, _, _, _, _, _, _, _, _, h1, _⟩ := hr
  have := hA.2 0
  simp only [World.cell?, h1] at this
  rw [Array.getElem?_eq_getElem h0] at this
  cases this
theorem RangeIs.ne {α β : Type} {kv : α → Value} {vv : β → Value} {m m' it : Nat} {l done l' : List (α × β)} (hr : RangeIs kv vv w m it l done) (hm : MapIs kv vv w m' l') : it ≠ m' := by
  rintro rfl
  obtain ⟨_, _, _, _, _, _, _, _, _, h1, _⟩ := hr
  obtain ⟨_, _, h2, _⟩ := hm
  rw [h1] at h2; cases h2
theorem wpList_insert_a {α β : Type} [DecidableEq α] {P : Program} {ops : Array Oper} {rest : List Oper} {o : Oper} {a : Act} {Q : Exit → Act → World → Prop} (hg : o.guard = none) (m x v : Operand) (t : TypeId) (hop : o.op = Op.insert t m x v)
    {K E : TypeId} {kv : α → Value} {vv : β → Value} (ko : KeyOk P K kv) (ht : P.underlying t = some (.map K E)) {b : Nat} {l : List (α × β)}
    (hm : a.eval m = .map (some b)) (h : MapIs kv vv w b l) (p : α) (hx : a.eval x = kv p) (q : β) (hv : a.eval v = vv q)
    (hK : ∀ w', MapIs kv vv w' b (putL l p q) → w.mapTurned w' b → wpList P ops Q rest (a.put o.dst undef) w') : wpList P ops Q (o :: rest) a w := by
  refine wpList_plain hg fun K' hK' => ?_
  obtain ⟨w', hrun, r1, r2⟩ := h.update ko ht p q
  unfold Oper.wp
  simp [execOp, hop, hm, hx, hv, hrun, Result.andThen]
  exact hK' _ _ (hK w' r1 r2)
end Go.Proofs.Ytkinapdfmgfdfaa
