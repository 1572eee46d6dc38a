/- Plain: what Holm decides, the share does, too; both decide each value that is not less than one that is decided; a 0 beside them decides nothing more. Which evidences are decided, as a row of bools; a row of bools of the call's own. Holm of package decide. Printed by gen_holm.py. -/
import Derived.Test.YtemenlcigengeaaGreatDoorTq50
import Derived.Test.YtemenlcigengeaaGreatDoorProg
import Derived.Test.YtemenlcigengeaaGreatDoorTq00
import Derived.Test.YtemenlcigengeaaGreatDoorTq41
import Derived.Test.YtemenlcigengeaaGreatDoorTq03
import Derived.Test.YtemenlcigengeaaGreatDoorTq23
import Derived.Test.YtemenlcigengeaaGreatDoorTq53
namespace Go.Proofs.YtemenlcigengeaaGreatDoor
namespace Nm
/-- what Holm asks at a place, of n evidences, with need = 1 / miss -/
def hTh (n : Nat) (need : Rat) (j : Nat) : Rat := ((n - j : Nat) : Rat) * need
def sTh (n : Nat) (need : Rat) : Rat := (n : Rat) * need
theorem hTh_anti {n : Nat} {need : Rat} (h : 0 < need) : ∀ c j, c ≤ j → j < n → hTh n need j ≤ hTh n need c := fun c j hc _ =>
  Rat.mul_le_mul_of_nonneg_right (cast_le (by omega)) (Rat.le_of_lt h)
theorem holm_mono {v th : Nat → Rat} {n i k : Nat} (h : HolmD v th n i) (hk : v i ≤ v k) : HolmD v th n k := fun m hm hkm => h m hm (Std.le_trans hk hkm)
theorem share_mono {v : Nat → Rat} {D : Rat} {n i k : Nat} (h : ShareD v D n i) (hk : v i ≤ v k) : ShareD v D n k := by
  obtain ⟨m, hm, h1, h2⟩ := h
  exact ⟨m, hm, Std.le_trans h1 hk, h2⟩
theorem cgt_lt {v : Nat → Rat} {n i : Nat} (hi : i < n) : cgt v n (v i) < cge v n (v i) ∧ cgt v n (v i) < n := by
  have e : cgt v n (v i) < cge v n (v i) := by
    unfold cgt cge
    have hsplit : List.range n = List.range i ++ i :: (List.range' (i + 1) (n - i - 1)) := by
      rw [List.range_eq_range', List.range_eq_range', show n = i + ((n - i - 1) + 1) by omega, ← List.range'_append_1, List.range'_succ]
      simp
    rw [hsplit, List.countP_append, List.countP_append, List.countP_cons_of_neg (by simp [Rat.lt_irrefl]), List.countP_cons_of_pos (by simp)]
    have a1 : (List.range i).countP (fun m => decide (v i < v m)) ≤ (List.range i).countP (fun m => decide (v i ≤ v m)) := List.countP_mono_left (fun m _ h => by rw [decide_eq_true_iff] at h ⊢; exact Rat.le_of_lt h)
    have a2 : (List.range' (i + 1) (n - i - 1)).countP (fun m => decide (v i < v m)) ≤ (List.range' (i + 1) (n - i - 1)).countP (fun m => decide (v i ≤ v m)) := List.countP_mono_left (fun m _ h => by rw [decide_eq_true_iff] at h ⊢; exact Rat.le_of_lt h)
    omega
  refine ⟨e, Nat.lt_of_lt_of_le e ?_⟩
  unfold cge
  exact Nat.le_trans List.countP_le_length (by rw [List.length_range]; exact Nat.le_refl _)
theorem holm_share {v : Nat → Rat} {n i : Nat} {need : Rat} (hneed : 0 < need) (h0 : ∀ k, k < n → 0 ≤ v k) (hi : i < n) (h : HolmD v (hTh n need) n i) : ShareD v (sTh n need) n i := by
  obtain ⟨h1, h2⟩ := cgt_lt (v := v) hi
  have h3 := h i hi Rat.le_refl
  refine ⟨i, hi, Rat.le_refl, ?_⟩
  generalize cgt v n (v i) = c at *
  generalize cge v n (v i) = e at *
  have a1 : v i * ((c + 1 : Nat) : Rat) ≤ v i * (e : Rat) := Rat.mul_le_mul_of_nonneg_left (cast_le (by omega)) (h0 i hi)
  refine Std.le_trans ?_ a1
  unfold hTh at h3
  have a2 : ((n - c : Nat) : Rat) * need * ((c + 1 : Nat) : Rat) ≤ v i * ((c + 1 : Nat) : Rat) := Rat.mul_le_mul_of_nonneg_right h3 (cast_le (Nat.zero_le _))
  refine Std.le_trans ?_ a2
  unfold sTh
  have a3 : n ≤ (n - c) * (c + 1) := by
    obtain ⟨d, rfl⟩ : ∃ d, n = c + d + 1 := ⟨n - c - 1, by omega⟩
    rw [show c + d + 1 - c = d + 1 by omega]
    have : (d + 1) * (c + 1) = d * c + d + c + 1 := by rw [Nat.add_mul, Nat.mul_add]; omega
    omega
  have a4 := cast_le a3
  rw [Rat.natCast_mul] at a4
  have a5 := Rat.mul_le_mul_of_nonneg_right a4 (Rat.le_of_lt hneed)
  have e : ((n - c : Nat) : Rat) * ((c + 1 : Nat) : Rat) * need = ((n - c : Nat) : Rat) * need * ((c + 1 : Nat) : Rat) := by rw [Rat.mul_assoc, Rat.mul_comm ((c + 1 : Nat) : Rat) need, ← Rat.mul_assoc]
  rw [e] at a5
  exact a5
/-- the values with a 0 behind them -/
structure With0 (v u : Nat → Rat) (n : Nat) : Prop where
  same : ∀ k, k < n → u k = v k
  last : u n = 0
theorem With0.cgt {v u : Nat → Rat} {n : Nat} (h : With0 v u n) {x : Rat} (hx : 0 ≤ x) : cgt u (n + 1) x = cgt v n x := by
  unfold Nm.cgt
  rw [List.range_succ, List.countP_append, List.countP_cons_of_neg (by rw [h.last]; simpa using Rat.not_lt.2 hx)]
  simp only [List.countP_nil, Nat.add_zero]
  exact List.countP_congr fun m hm => by rw [h.same m (List.mem_range.1 hm)]
theorem With0.cge {v u : Nat → Rat} {n : Nat} (h : With0 v u n) {x : Rat} (hx : 0 < x) : cge u (n + 1) x = cge v n x := by
  unfold Nm.cge
  rw [List.range_succ, List.countP_append, List.countP_cons_of_neg (by rw [h.last]; simpa using Rat.not_le.2 hx)]
  simp only [List.countP_nil, Nat.add_zero]
  exact List.countP_congr fun m hm => by rw [h.same m (List.mem_range.1 hm)]
theorem With0.holm {v u : Nat → Rat} {n i : Nat} {need : Rat} (h : With0 v u n) (hneed : 0 < need) (h0 : ∀ k, k < n → 0 ≤ v k) (hi : i < n) (hd : HolmD u (hTh (n + 1) need) (n + 1) i) : HolmD v (hTh n need) n i := by
  intro k hk hik
  have := hd k (by omega) (by rw [h.same k hk, h.same i hi]; exact hik)
  rw [h.same k hk, h.cgt (h0 k hk)] at this
  refine Std.le_trans ?_ this
  exact Rat.mul_le_mul_of_nonneg_right (cast_le (by omega)) (Rat.le_of_lt hneed)
theorem pos_mul {x y : Rat} (h : 0 < x) (k : 0 < y) : 0 < x * y := Rat.mul_pos h k
theorem cast_pos {n : Nat} (h : 0 < n) : (0 : Rat) < (n : Rat) := Rat.natCast_pos.2 h
theorem With0.share {v u : Nat → Rat} {n i : Nat} {need : Rat} (h : With0 v u n) (hneed : 0 < need) (h0 : ∀ k, k < n → 0 ≤ v k) (hi : i < n) (hd : ShareD u (sTh (n + 1) need) (n + 1) i) : ShareD v (sTh n need) n i := by
  obtain ⟨k, hk, hki, hc⟩ := hd
  have hpos : 0 < sTh (n + 1) need := pos_mul (cast_pos (by omega)) hneed
  have hu : 0 < u k := by
    by_cases hh : 0 < u k
    · exact hh
    · exfalso
      have e1 : u k ≤ 0 := Rat.not_lt.1 hh
      have e2 : u k = 0 := by
        refine Rat.le_antisymm e1 ?_
        by_cases hkn : k < n
        · rw [h.same k hkn]; exact h0 k hkn
        · rw [show k = n by omega, h.last]; exact Rat.le_refl
      rw [e2, Rat.zero_mul] at hc
      exact absurd (Std.lt_of_lt_of_le hpos hc) Rat.lt_irrefl
  have hkn : k < n := by
    by_cases hh : k < n
    · exact hh
    · rw [show k = n by omega, h.last] at hu; exact absurd hu Rat.lt_irrefl
  refine ⟨k, hkn, by rw [← h.same k hkn, ← h.same i hi]; exact hki, ?_⟩
  rw [h.cge hu, h.same k hkn] at hc
  refine Std.le_trans ?_ hc
  exact Rat.mul_le_mul_of_nonneg_right (cast_le (by omega)) (Rat.le_of_lt hneed)
theorem With0.holm_last {v u : Nat → Rat} {n : Nat} {need : Rat} (h : With0 v u n) (hneed : 0 < need) : ¬ HolmD u (hTh (n + 1) need) (n + 1) n := by
  intro hd
  have := hd n (by omega) Rat.le_refl
  have h2 := (cgt_lt (v := u) (n := n + 1) (i := n) (by omega)).2
  rw [h.last] at this h2
  have hpos : 0 < hTh (n + 1) need (Nm.cgt u (n + 1) 0) := pos_mul (cast_pos (by omega)) hneed
  exact absurd (Std.lt_of_lt_of_le hpos this) Rat.lt_irrefl
theorem With0.share_last {v u : Nat → Rat} {n : Nat} {need : Rat} (h : With0 v u n) (hneed : 0 < need) (h0 : ∀ k, k < n → 0 ≤ v k) : ¬ ShareD u (sTh (n + 1) need) (n + 1) n := by
  rintro ⟨k, hk, hki, hc⟩
  rw [h.last] at hki
  have e2 : u k = 0 := by
    refine Rat.le_antisymm hki ?_
    by_cases hkn : k < n
    · rw [h.same k hkn]; exact h0 k hkn
    · rw [show k = n by omega, h.last]; exact Rat.le_refl
  rw [e2, Rat.zero_mul] at hc
  have hpos : 0 < sTh (n + 1) need := pos_mul (cast_pos (by omega)) hneed
  exact absurd (Std.lt_of_lt_of_le hpos hc) Rat.lt_irrefl
end Nm
end Go.Proofs.YtemenlcigengeaaGreatDoor
namespace Go.Proofs.YtemenlcigengeaaGreatDoor
open Go.RowKit
namespace Nm
/-- the bools of a set of places -/
def bitL (n : Nat) (S : List Nat) : List Bool := (List.range n).map fun i => decide (i ∈ S)
theorem bitL_len (n : Nat) (S : List Nat) : (bitL n S).length = n := by simp [bitL]
theorem bitL_nil (n : Nat) : bitL n [] = List.replicate n false := by
  unfold bitL
  simp only [List.not_mem_nil, decide_false]
  rw [List.map_const', List.length_range]
theorem bitL_set {n : Nat} {S : List Nat} {i : Nat} (_hi : i < n) : (bitL n S).set i true = bitL n (S ++ [i]) := by
  apply List.ext_getElem
  · simp [bitL]
  · intro j h1 h2
    rw [List.getElem_set]
    simp only [bitL, List.getElem_map, List.getElem_range, List.mem_append, List.mem_singleton]
    split
    · rename_i h; subst h; simp
    · rename_i h
      have : ¬ j = i := fun e => h e.symm
      simp [this]
noncomputable def pB (p : Prop) : Bool := @decide p (Classical.propDecidable p)
theorem pB_iff {p : Prop} : pB p = true ↔ p := by unfold pB; exact @decide_eq_true_iff p (Classical.propDecidable p)
noncomputable def holmB (v : Nat → Rat) (need : Rat) (n : Nat) : List Bool := (List.range n).map fun i => pB (HolmD v (hTh n need) n i)
noncomputable def shareB (v : Nat → Rat) (need : Rat) (n : Nat) : List Bool := (List.range n).map fun i => pB (ShareD v (sTh n need) n i)
theorem holmB_len (v : Nat → Rat) (need : Rat) (n : Nat) : (holmB v need n).length = n := by simp [holmB]
theorem shareB_len (v : Nat → Rat) (need : Rat) (n : Nat) : (shareB v need n).length = n := by simp [shareB]
theorem bit_holm {v : Nat → Rat} {need : Rat} {n : Nat} {P : List Nat} (h : Rk v n P) (hn : 0 < need) : bitL n (P.take (hJ v (hTh n need) P 0)) = holmB v need n := by
  unfold bitL holmB
  apply List.map_congr_left
  intro i hi
  have hi' := List.mem_range.1 hi
  rw [Bool.eq_iff_iff, decide_eq_true_eq, pB_iff]
  exact holm_mem h (hTh_anti hn) hi'
theorem bit_share {v : Nat → Rat} {need : Rat} {n : Nat} {P : List Nat} (h : Rk v n P) (h0 : ∀ k, k < n → 0 ≤ v k) : bitL n (P.take (shN v (sTh n need) P 0 0)) = shareB v need n := by
  unfold bitL shareB
  apply List.map_congr_left
  intro i hi
  have hi' := List.mem_range.1 hi
  rw [Bool.eq_iff_iff, decide_eq_true_eq, pB_iff]
  exact share_mem h h0 hi'
theorem hJ_step {v th : Nat → Rat} {P : List Nat} {k : Nat} (hk : k < P.length) : hJ v th (P.drop k) k = if v P[k] < th k then k else hJ v th (P.drop (k + 1)) (k + 1) := by
  rw [List.drop_eq_getElem_cons hk]; rfl
theorem shN_step {v : Nat → Rat} {D : Rat} {P : List Nat} {k N : Nat} (hk : k < P.length) : shN v D (P.drop k) k N = shN v D (P.drop (k + 1)) (k + 1) (if D ≤ v P[k] * ((k + 1 : Nat) : Rat) then k + 1 else N) := by
  rw [List.drop_eq_getElem_cons hk]; rfl
theorem take_snoc_at {P : List Nat} {k : Nat} (hk : k < P.length) : P.take (k + 1) = P.take k ++ [P[k]] := by
  rw [List.take_add_one, List.getElem?_eq_getElem hk]; rfl
/-- a row of bools of the call's own -/
def OwnZ (w : World) (b : Nat) (l : List Bool) : Prop := ∃ cur, w.heap[b]? = some (.cells cur 4 (0, 0)) ∧ cur.toList = bcs l
theorem OwnZ.lt {w : World} {b : Nat} {l : List Bool} (h : OwnZ w b l) : b < w.heap.size := by
  obtain ⟨cur, hh, _⟩ := h
  exact (Array.getElem?_eq_some_iff.1 hh).1
theorem OwnZ.cell {w : World} {b : Nat} {l : List Bool} (h : OwnZ w b l) {i : Nat} (hi : i < l.length) : w.cell? ⟨b, i, none⟩ = some (.bool l[i]) := by
  obtain ⟨cur, hh, hc⟩ := h
  have hs : cur.toList[i]? = some (.bool l[i]) := by rw [hc]; exact bcs_get hi
  simp only [World.cell?, hh]
  simpa using hs
theorem OwnZ.frozen {w : World} {b : Nat} {l : List Bool} (h : OwnZ w b l) (i : Nat) : w.frozen? ⟨b, i, none⟩ = false := by
  obtain ⟨cur, hh, _⟩ := h; simp [World.frozen?, hh]
theorem OwnZ.keep {w w' : World} {b : Nat} {l : List Bool} (h : OwnZ w b l) (hb : w'.heap[b]? = w.heap[b]?) : OwnZ w' b l := by
  obtain ⟨cur, hh, hc⟩ := h; exact ⟨cur, by rw [hb]; exact hh, hc⟩
theorem OwnZ.ext {w w' : World} {b : Nat} {l : List Bool} (h : OwnZ w b l) (hb : Below w.heap.size w w') : OwnZ w' b l := h.keep (hb.block b h.lt)
theorem OwnZ.sl {w : World} {b : Nat} {l : List Bool} (h : OwnZ w b l) {c : Nat} (h1 : l.length ≤ c) (h2 : c ≤ maxLen) : Sl w (.slice (some ⟨b, 0, none⟩) l.length c) l.length (bcs l) := by
  refine ⟨_, _, rfl, h1, h2, fun h => by simp at h, fun i x hx => ⟨b, 0, rfl, ?_⟩⟩
  have hi : i < l.length := by have := (List.getElem?_eq_some_iff.1 hx).1; simpa [bcs] using this
  rw [bcs_get hi] at hx
  cases hx
  rw [Nat.zero_add]; exact h.cell hi
theorem OwnZ.set {w : World} {b : Nat} {l : List Bool} (h : OwnZ w b l) {i : Nat} (_hi : i < l.length) (x : Bool) : OwnZ (w.setCell ⟨b, i, none⟩ (.bool x)) b (l.set i x) := by
  obtain ⟨cur, h, hc⟩ := h
  refine ⟨cur.setIfInBounds i (.bool x), ?_, ?_⟩
  · simp only [World.setCell, Array.getElem?_modify, h]; simp
  · rw [Array.toList_setIfInBounds, hc]
    simp [bcs, List.map_set]
theorem OwnZ.new (w : World) (l : List Bool) : OwnZ (w.alloc (.cells (bcs l).toArray 4)) w.heap.size l := ⟨_, heap_alloc_new w _, by simp⟩
theorem bool_info : (Tryz.prog.info? 4).map (fun i => (i.zero, i.size, i.bytes)) = some (some (.bool false), 1, 1) := by kernel_rfl
theorem madeCells_bools (n : Nat) : madeCells #[Value.bool false] n = (bcs (List.replicate n false)).toArray := by
  apply Array.ext
  · simp [size_madeCells, bcs]
  · intro i h1 h2; simp [madeCells, bcs, Nat.mod_one]
theorem wpList_make_bools {w : World} {ops : Array Oper} {rest : List Oper} {o : Oper} {a : Act} {Q : Exit → Act → World → Prop}
    (hg : o.guard = none) (l c : Operand) (hop : o.op = Op.makeSlice 44 l c) {z : Int} (n : Nat) (hl : a.eval l = .int .i64 z) (hc : a.eval c = .int .i64 z) (hz : z = (n : Int)) (hb : n ≤ 10000000000)
    (h : ∀ W, OwnZ W w.heap.size (List.replicate n false) → Below w.heap.size w W → W.heap.size = w.heap.size + 1 → wpList Tryz.prog ops Q rest (a.put o.dst (.slice (some ⟨w.heap.size, 0, none⟩) n n)) W) :
    wpList Tryz.prog ops Q (o :: rest) a w := by
  subst hz
  obtain ⟨i, hi, hz0, hz1, hz2⟩ := info_parts bool_info
  refine wpList_make_row w hg l c _ hop 4 i _ Tryz.underlying44 hi hz0 hz1 rfl _ _ n hl hc (by rw [hz2]; omega) (by omega) ?_
  rw [madeCells_bools]
  exact h _ (OwnZ.new _ _) (by go_grown) (by simp)
end Nm
end Go.Proofs.YtemenlcigengeaaGreatDoor
namespace Go.Proofs.YtemenlcigengeaaGreatDoor
open Go.RowKit
namespace Nm
def RowIf (w : World) (f : Int) (L : List Bool) (a : Option Addr) (n c : Nat) : Prop := (f = 0 → n = L.length ∧ Sl w (.slice a n c) n (bcs L)) ∧ (f ≠ 0 → a = none ∧ n = 0 ∧ c = 0)
theorem RowIf.ext {w w' : World} {f : Int} {L : List Bool} {a : Option Addr} {n c : Nat} (h : RowIf w f L a n c) (hb : Below w.heap.size w w') : RowIf w' f L a n c := ⟨fun h0 => ⟨(h.1 h0).1, (h.1 h0).2.ext hb⟩, h.2⟩
theorem RowIf.bad {w : World} {f : Int} {L : List Bool} (h : f ≠ 0) : RowIf w f L none 0 0 := ⟨fun h0 => absurd h0 h, fun _ => ⟨rfl, rfl, rfl⟩⟩
theorem RowIf.good {w : World} {L : List Bool} {b c : Nat} (h : OwnZ w b L) (h1 : L.length ≤ c) (h2 : c ≤ maxLen) : RowIf w 0 L (some ⟨b, 0, none⟩) L.length c := ⟨fun _ => ⟨rfl, h.sl h1 h2⟩, fun h0 => absurd rfl h0⟩
def RowsPost (w : World) (f : Int) (L : List Bool) (e : Ending) (w' : World) : Prop := ∃ a n c, e = .returned (.tuple #[.slice a n c, .int .i64 f]) ∧ RowIf w' f L a n c ∧ Below w.heap.size w w'
theorem whole_q (z : Int) (q : Rat) (h : (z : Rat) = q) (h1 : -9223372036854775808 ≤ z) (h2 : z ≤ 9223372036854775807) (w : World) : Calls Tryz.prog 40 #[.int .i64 z] w (XPost w q) := by
  subst h; exact whole_at z h1 h2 w
theorem rk_parts {l : List RT} {n d : ByteArray} (h : rkF l n d = 0) : (1 ≤ l.length ∧ l.length ≤ 10) ∧ aF l = 0 ∧ missF n d = 0 := by
  unfold rkF at h
  by_cases h1 : allF l = 0
  · rw [if_neg (fun h' => h' h1)] at h
    exact ⟨(allF_ok h1).1, (allF_ok h1).2, h⟩
  · rw [if_pos h1] at h; exact absurd h h1
theorem vL_ln {l : List RT} (h : aF l = 0) {i : Nat} (hi : i < l.length) : 0 ≤ vL l i ∧ Ln 100 100 (vL l i) := by
  rw [vL_at (List.getElem?_eq_getElem hi)]
  have h1 := part_ln h (List.getElem_mem hi)
  exact ⟨h1.2.1, h1.2.2.1⟩
theorem miss_ln {n d : ByteArray} (h : missF n d = 0) : 0 < rQ n d ∧ Ln 100 100 (rQ n d) ∧ rQ n d < 1 ∧ n = showN (rQ n d) ∧ d = showD (rQ n d) ∧ Fits (rQ n d) := by
  obtain ⟨q, hq, hrq, hn, hd, h0, h1, hl⟩ := lawLine.miss_parts h
  rw [hrq]; exact ⟨h0, hl, h1, hn, hd, hq⟩
set_option maxRecDepth 100000 in
set_option maxHeartbeats 8000000 in
theorem holm_at (l : List RT) (hok : ∀ r ∈ l, rtOk r) (a : Option Addr) (c : Nat) (n d : ByteArray) (hn : n.size ≤ maxLen) (hd : d.size ≤ maxLen) (w : World) (hs : Sl w (.slice a l.length c) l.length (l.flatMap rtL)) : Calls Tryz.prog 18 #[.slice a l.length c, .agg #[.string n, .string d]] w (RowsPost w (rkF l n d) (holmB (vL l) (rQ n d)⁻¹ l.length)) := by
  have HS := Lib.hid hs
  have HOK := Lib.hid hok
  have HND := Lib.hid (And.intro hn hd)
  clear hs hok hn hd
  go_enter Tryz.func18, Tryz.ntmps18
  go_upto_region 1 with (fail)
  refine wp_box1 fun w1' hsz hbW hA0 => ?_
  clear hsz
  have HB_m := Lib.hid hA0
  have HW := Lib.hid hbW
  clear hbW hA0
  have c_m_0 : w1'.cell? ⟨w.heap.size, 0, none⟩ = some (.string n) := HB_m.out.2 0
  have c_m_1 : w1'.cell? ⟨w.heap.size, 1, none⟩ = some (.string d) := HB_m.out.2 1
  go_wp2_with fail
  refine (ranked_at l HOK.out a c n d HND.out.1 HND.out.2 w1' (HS.out.ext HW.out)).mono ?_
  rintro e w2' ⟨a3, c3, xs, a4, n4, c4, t, rfl, hx9, hbz⟩
  have HX9 := Lib.hid hx9
  clear hx9
  obtain ⟨tb, ta1, tn1, tc1, ta2, tn2, tc2⟩ := t
  rw [show y3V ⟨tb, ta1, tn1, tc1, ta2, tn2, tc2⟩ = .agg #[.bool tb, .slice ta1 tn1 tc1, .slice ta2 tn2 tc2] from rfl]
  replace HB_m := Lib.hid (HB_m.out.ext hbz)
  replace HW := Lib.hid (ext_trans HW.out hbz)
  clear c_m_0 c_m_1
  clear hbz
  go_upto_region 2 with (fail)
  refine wp_box1 fun w3' hsz hbz hC => ?_
  clear hsz
  have lt_m_need : w.heap.size < w2'.heap.size := HB_m.out.1
  have le_need : w.heap.size ≤ w2'.heap.size := HW.out.size
  replace HB_m := Lib.hid (HB_m.out.ext hbz)
  replace HX9 := Lib.hid (HX9.out.ext hbz)
  replace HW := Lib.hid (ext_trans HW.out hbz)
  clear hbz
  have HB_need := Lib.hid hC
  clear hC
  generalize w2'.heap.size = b_need at *
  by_cases hf : rkF l n d = 0
  · have hne : (rkF l n d != 0) = false := by simp [hf]
    have HV := Lib.hid hf
    obtain ⟨rfl, hrk⟩ := HX9.out hf
    have HRK := Lib.hid hrk
    have hp9 := rk_parts hf
    have HAF : Hid (aF l = 0) := Lib.hid hp9.2.1
    have HMI := Lib.hid (miss_ln hp9.2.2)
    obtain ⟨⟨hl1, hl10⟩, _⟩ := hp9
    clear hf HX9 hrk
    obtain ⟨P, hP⟩ : ∃ P, rankP (vL l) l.length = P := ⟨_, rfl⟩
    have HPK : Hid (Rk (vL l) l.length P) := Lib.hid (by rw [← hP]; exact rankP_rk _ _)
    have HPS : Hid (Sl w3' (.slice a4 l.length c4) l.length (Nt.wcs P)) := Lib.hid (by rw [← hP]; exact HRK.out.sl)
    have HXS := Lib.hid HRK.out.xs
    have HXR := Lib.hid HRK.out.nd
    have HPL := Lib.hid HPK.out.len
    clear hP HRK
    have HLI : Hid (Ln 100 100 (rQ n d)⁻¹ ∧ 0 < (rQ n d)⁻¹) := Lib.hid ⟨HMI.out.2.1.inv (Rat.ne_of_gt HMI.out.1), Rat.inv_pos.2 HMI.out.1⟩
    generalize (rQ n d)⁻¹ = q at *
    go_wp2_with (refine wpList_make_bools rfl _ _ rfl l.length rfl rfl rfl (by omega) ?_; intro w4' hO hbz hsz)
    have HBL : Hid (Below w3'.heap.size w3' w4') := Lib.hid hbz
    have HO : Hid (OwnZ w4' w3'.heap.size (bitL l.length [])) := Lib.hid (by rw [bitL_nil]; exact hO)
    clear hO hbz hsz
    go_wp2
    go_loopw [11, 12, 29] (fun _ _ i wr => ∃ k : Nat, k ≤ l.length ∧ i = .int .i64 (k : Int) ∧ Hid (hJ (vL l) (hTh l.length q) P 0 = hJ (vL l) (hTh l.length q) (P.drop k) k) ∧ Hid (OwnZ wr w3'.heap.size (bitL l.length (P.take k))) ∧ Hid (Below w3'.heap.size w3' wr)) (fun _ _ i _ => l.length - (intOf i).toNat)
    case atStart => exact ⟨0, by omega, rfl, rfl, HO, HBL⟩
    case round =>
      clear HO HBL
      obtain ⟨k, hk, rfl, HJ, HO, HBL⟩ := hrel
      generalize hX : wr = X at *
      clear hX
      by_cases hlt : k < l.length
      · have hkP : k < P.length := by rw [HPL.out]; exact hlt
        have hgP := Nt.wcs_get hkP
        have HIN : Hid (P[k] < l.length) := Lib.hid (HPK.out.mem.1 (List.getElem_mem hkP))
        have HST := Lib.hid (hJ_step (v := vL l) (th := hTh l.length q) hkP)
        have HTK := Lib.hid (take_snoc_at hkP)
        generalize P[k] = i at *
        have hin := HIN.out
        obtain ⟨pb4, po4, rfl, hc4⟩ := sl_addr HPS.out hgP
        have c_p : X.cell? ⟨pb4, po4 + k, none⟩ = some (.int .i64 (i : Int)) := (HBL.out.cell (World.block_lt_of_cell? _ _ hc4)).trans hc4
        clear hc4 hgP
        have hlx : i < xs.length := by rw [HXS.out.len]; exact hin
        obtain ⟨tx, htx⟩ : ∃ t, xs[i]? = some t := ⟨_, List.getElem?_eq_getElem hlx⟩
        obtain ⟨rx, hrx⟩ : ∃ r, l[i]? = some r := ⟨_, List.getElem?_eq_getElem hin⟩
        have HXI : Hid (XR X (y3V tx) (vL l i)) := Lib.hid (by rw [vL_at hrx]; exact (HXS.out.ok i tx rx htx hrx).ext HBL.out)
        obtain ⟨pb, po, hp9, hcx⟩ := HXS.out.sl.elem (f := y3L) (fun _ => rfl) (by omega : 0 < 3) htx
        subst hp9
        obtain ⟨xb, xa1, xn1, xc1, xa2, xn2, xc2⟩ := tx
        have c_x_0 : X.cell? ⟨pb, po + i * 3, none⟩ = some (.bool xb) := by have h := hcx 0 _ rfl; exact (HBL.out.cell (World.block_lt_of_cell? _ _ h)).trans h
        have c_x_1 : X.cell? ⟨pb, po + i * 3 + 1, none⟩ = some (.slice xa1 xn1 xc1) := by have h := hcx 1 _ rfl; exact (HBL.out.cell (World.block_lt_of_cell? _ _ h)).trans h
        have c_x_2 : X.cell? ⟨pb, po + i * 3 + 2, none⟩ = some (.slice xa2 xn2 xc2) := by have h := hcx 2 _ rfl; exact (HBL.out.cell (World.block_lt_of_cell? _ _ h)).trans h
        have HVL := Lib.hid (vL_ln HAF.out hin)
        have hvs := HVL.out.2.small (by omega) (by omega)
        have hqs := HLI.out.1.small (by omega) (by omega)
        have hi0 : (0 : Int) ≤ (i : Int) := Int.natCast_nonneg _
        have hi1 : (i : Int) < (xs.length : Int) := by omega
        have hi2 : (i : Int) < (l.length : Int) := by omega
        have hi3 : (i : Int).toNat = i := by omega
        have hk0 : (0 : Int) ≤ (k : Int) := Int.natCast_nonneg _
        have hk1 : (k : Int) < (l.length : Int) := by omega
        have hk3 : (k : Int).toNat = k := by omega
        clear hcx htx hrx hlx hkP
        have HXQ : Hid (XR X (y3V ⟨tb, ta1, tn1, tc1, ta2, tn2, tc2⟩) q) := Lib.hid (HXR.out.ext HBL.out)
        have HBN : Hid (Box X b_need #[.bool tb, .slice ta1 tn1 tc1, .slice ta2 tn2 tc2]) := Lib.hid (HB_need.out.ext HBL.out)
        have c_need_0 : X.cell? ⟨b_need, 0, none⟩ = some (.bool tb) := HBN.out.2 0
        have c_need_1 : X.cell? ⟨b_need, 1, none⟩ = some (.slice ta1 tn1 tc1) := HBN.out.2 1
        have c_need_2 : X.cell? ⟨b_need, 2, none⟩ = some (.slice ta2 tn2 tc2) := HBN.out.2 2
        go_upto_region 8 with (fail)
        obtain ⟨q1, hq1⟩ : ∃ x : Rat, (((l.length : Int) - (k : Int) : Int) : Rat) = x := ⟨_, rfl⟩
        obtain ⟨m, hm⟩ : ∃ x, q1 * q = x := ⟨_, rfl⟩
        obtain ⟨z, hz⟩ : ∃ x, cmpQ (vL l i) m = x := ⟨_, rfl⟩
        have HEQ := Lib.hid (And.intro hq1 (And.intro hm hz))
        have HL1 : Hid (Ln 2 0 q1) := Lib.hid (by rw [← hq1]; exact Ln.int (by omega))
        have HLM : Hid (Ln 102 100 m) := Lib.hid (by rw [← hm]; exact HL1.out.mul HLI.out.1)
        have h1s := HL1.out.small (by omega) (by omega)
        have hms := HLM.out.small (by omega) (by omega)
        have HTM : Hid (hTh l.length q k = m) := Lib.hid (by rw [← hm, ← hq1]; unfold hTh; rw [show (l.length : Int) - (k : Int) = ((l.length - k : Nat) : Int) by omega, Rat.intCast_natCast])
        have HCM : Hid (vL l i < hTh l.length q k ↔ z < 0) := Lib.hid (by rw [HTM.out, ← hz, cmpQ_neg])
        have hwr : IntKind.i64.wrap ((l.length : Int) - (k : Int)) = (l.length : Int) - (k : Int) := by rw [IntKind.wrap_i64]; omega
        have hsb : w3'.heap.size ≤ X.heap.size := HBL.out.size
        clear hq1 hm hz
        refine Grow.wp_region_grow 13 [TP.eq (.slice (some ⟨pb, po, none⟩) xs.length c3), TP.eq (.int .i64 (i : Int)), TP.eq (.pointer (some ⟨pb, po + i * 3, none⟩)), TP.eq (.agg #[.bool xb, .slice xa1 xn1 xc1, .slice xa2 xn2 xc2]), TP.eq (.slice a l.length c), TP.eq (.int .i64 (l.length : Int)), TP.eq (.int .i64 (k : Int)), TP.eq (.int .i64 ((l.length : Int) - (k : Int))), TPx q1, TP.eq (.agg #[.bool tb, .slice ta1 tn1 tc1, .slice ta2 tn2 tc2]), TPx m, TP.eq (.int .i64 z), TP.eq (.bool (decide (z < 0)))] [[], [], [0, 1], [2], [], [4], [], [5, 6], [7], [], [8, 9], [3, 10], [11]] (by kernel_rfl) (by kernel_rfl) ⟨?o0ho, ?o1ho, ?o2ho, ?o3ho, ?o4ho, ?o5ho, ?o6ho, ?o7ho, ?o8ho, ?o9ho, ?o10ho, ?o11ho, ?o12ho, trivial⟩ ?_
        case o0ho =>
          intro w' hb
          show wpList _ _ _ _ _ _
          go_wp2
          exact ⟨rfl, Below.refl _ _, rfl⟩
        case o1ho =>
          intro w' hb
          show wpList _ _ _ _ _ _
          go_wp2
          exact ⟨rfl, Below.refl _ _, rfl⟩
        case o2ho =>
          intro w' hb v1 hv1 v2 hv2
          obtain rfl : v1 = _ := hv1
          obtain rfl : v2 = _ := hv2
          show wpList _ _ _ _ _ _
          simp only [Grow.dstOf, List.getElem?_toArray, List.getElem?_cons_succ, List.getElem?_cons_zero, Option.bind_some, Act.put, List.setIfInBounds_toArray, List.set_cons_succ, List.set_cons_zero]
          go_wp2
          exact ⟨rfl, Below.refl _ _, rfl⟩
        case o3ho =>
          intro w' hb v1 hv1
          obtain rfl : v1 = _ := hv1
          have c_x_0' : w'.cell? ⟨pb, po + i * 3, none⟩ = some (.bool xb) := (hb.cell (World.block_lt_of_cell? _ _ c_x_0)).trans c_x_0
          have c_x_1' : w'.cell? ⟨pb, po + i * 3 + 1, none⟩ = some (.slice xa1 xn1 xc1) := (hb.cell (World.block_lt_of_cell? _ _ c_x_1)).trans c_x_1
          have c_x_2' : w'.cell? ⟨pb, po + i * 3 + 2, none⟩ = some (.slice xa2 xn2 xc2) := (hb.cell (World.block_lt_of_cell? _ _ c_x_2)).trans c_x_2
          show wpList _ _ _ _ _ _
          simp only [Grow.dstOf, List.getElem?_toArray, List.getElem?_cons_succ, List.getElem?_cons_zero, Option.bind_some, Act.put, List.setIfInBounds_toArray, List.set_cons_succ, List.set_cons_zero]
          go_wp2
          exact ⟨rfl, Below.refl _ _, rfl⟩
        case o4ho =>
          intro w' hb
          show wpList _ _ _ _ _ _
          go_wp2
          exact ⟨rfl, Below.refl _ _, rfl⟩
        case o5ho =>
          intro w' hb v1 hv1
          obtain rfl : v1 = _ := hv1
          show wpList _ _ _ _ _ _
          simp only [Grow.dstOf, List.getElem?_toArray, List.getElem?_cons_succ, List.getElem?_cons_zero, Option.bind_some, Act.put, List.setIfInBounds_toArray, List.set_cons_succ, List.set_cons_zero]
          go_wp2
          exact ⟨rfl, Below.refl _ _, rfl⟩
        case o6ho =>
          intro w' hb
          show wpList _ _ _ _ _ _
          go_wp2
          exact ⟨rfl, Below.refl _ _, rfl⟩
        case o7ho =>
          intro w' hb v1 hv1 v2 hv2
          obtain rfl : v1 = _ := hv1
          obtain rfl : v2 = _ := hv2
          show wpList _ _ _ _ _ _
          simp only [Grow.dstOf, List.getElem?_toArray, List.getElem?_cons_succ, List.getElem?_cons_zero, Option.bind_some, Act.put, List.setIfInBounds_toArray, List.set_cons_succ, List.set_cons_zero]
          go_wp2
          exact ⟨rfl, Below.refl _ _, rfl⟩
        case o8ho =>
          intro w' hb v1 hv1
          obtain rfl : v1 = _ := hv1
          show wpList _ _ _ _ _ _
          simp only [Grow.dstOf, List.getElem?_toArray, List.getElem?_cons_succ, List.getElem?_cons_zero, Option.bind_some, Act.put, List.setIfInBounds_toArray, List.set_cons_succ, List.set_cons_zero]
          go_wp2_with fail
          refine (whole_q ((l.length : Int) - (k : Int)) q1 HEQ.out.1 (by omega) (by omega) w').mono ?_
          rintro e wz ⟨vz, rfl, hxz, hbz⟩
          go_wp2
          exact ⟨hxz, hbz, rfl⟩
        case o9ho =>
          intro w' hb
          have c_need_0' : w'.cell? ⟨b_need, 0, none⟩ = some (.bool tb) := (hb.cell (World.block_lt_of_cell? _ _ c_need_0)).trans c_need_0
          have c_need_1' : w'.cell? ⟨b_need, 1, none⟩ = some (.slice ta1 tn1 tc1) := (hb.cell (World.block_lt_of_cell? _ _ c_need_1)).trans c_need_1
          have c_need_2' : w'.cell? ⟨b_need, 2, none⟩ = some (.slice ta2 tn2 tc2) := (hb.cell (World.block_lt_of_cell? _ _ c_need_2)).trans c_need_2
          show wpList _ _ _ _ _ _
          go_wp2
          exact ⟨rfl, Below.refl _ _, rfl⟩
        case o10ho =>
          intro w' hb v1 hv1 v2 hv2
          have hv1' : XR w' v1 q1 := hv1
          clear hv1
          obtain rfl : v2 = _ := hv2
          obtain ⟨o11, l11, o12, l12, rfl, _, _⟩ := hv1'.open_
          show wpList _ _ _ _ _ _
          simp only [Grow.dstOf, List.getElem?_toArray, List.getElem?_cons_succ, List.getElem?_cons_zero, Option.bind_some, Act.put, List.setIfInBounds_toArray, List.set_cons_succ, List.set_cons_zero]
          go_wp2_with fail
          refine (xtimes_is q1 q m HEQ.out.2.1 _ _ w' hv1' (HXQ.out.ext hb) (by omega) (by omega) (by omega) (by omega)).mono ?_
          rintro e wz ⟨vz, rfl, hxz, hbz⟩
          go_wp2
          exact ⟨hxz, hbz, rfl⟩
        case o11ho =>
          intro w' hb v1 hv1 v2 hv2
          obtain rfl : v1 = _ := hv1
          have hv2' : XR w' v2 m := hv2
          clear hv2
          obtain ⟨o21, l21, o22, l22, rfl, _, _⟩ := hv2'.open_
          show wpList _ _ _ _ _ _
          simp only [Grow.dstOf, List.getElem?_toArray, List.getElem?_cons_succ, List.getElem?_cons_zero, Option.bind_some, Act.put, List.setIfInBounds_toArray, List.set_cons_succ, List.set_cons_zero]
          go_wp2_with fail
          refine (xcmp_is (vL l i) m z HEQ.out.2.2 _ _ w' (HXI.out.ext hb) hv2' (by omega) (by omega) (by omega) (by omega)).mono ?_
          rintro e wz ⟨rfl, hbz⟩
          go_wp2
          exact ⟨rfl, hbz, rfl⟩
        case o12ho =>
          intro w' hb v1 hv1
          obtain rfl : v1 = _ := hv1
          show wpList _ _ _ _ _ _
          simp only [Grow.dstOf, List.getElem?_toArray, List.getElem?_cons_succ, List.getElem?_cons_zero, Option.bind_some, Act.put, List.setIfInBounds_toArray, List.set_cons_succ, List.set_cons_zero]
          go_wp2
          exact ⟨rfl, Below.refl _ _, rfl⟩
        intro Y hbz u0 hu0 u1 hu1 u2 hu2 u3 hu3 u4 hu4 u5 hu5 u6 hu6 u7 hu7 u8 hu8 u9 hu9 u10 hu10 u11 hu11 u12 hu12
        obtain rfl : u12 = _ := hu12
        clear hu0 hu1 hu2 hu3 hu4 hu5 hu6 hu7 hu8 hu9 hu10 hu11
        replace HO := Lib.hid (HO.out.ext hbz)
        replace HBL := Lib.hid (HBL.out.trans (hbz.mono hsb))
        clear hbz hwr h1s hms hvs hqs c_x_0 c_x_1 c_x_2 c_need_0 c_need_1 c_need_2 c_p
        refine tail_none (P := Tryz.prog) (ops := #[]) ?_
        simp only [Act.put, List.setIfInBounds_toArray, List.set_cons_succ, List.set_cons_zero]
        by_cases hzz : z < 0
        · have HJ9 : Hid (hJ (vL l) (hTh l.length q) P 0 = k) := Lib.hid (HJ.out.trans (HST.out.trans (if_pos (HCM.out.2 hzz))))
          have HL9 : Hid (holmB (vL l) q l.length = bitL l.length (P.take k)) := Lib.hid (by rw [← bit_holm HPK.out HLI.out.2, HJ9.out])
          have HWZ : Hid (Below w.heap.size w Y) := Lib.hid (ext_trans HW.out HBL.out)
          go_wp2
          exact bodyPost_ret (v := .tuple #[.slice (some ⟨w3'.heap.size, 0, none⟩) l.length l.length, .int .i64 0]) (by simp [results, Tryz.results18, go_sem]) rfl ⟨_, l.length, _, by rw [HV.out], by rw [HV.out, HL9.out]; have h := RowIf.good (c := l.length) HO.out (by rw [bitL_len]; exact Nat.le_refl _) (by unfold maxLen; omega); rw [bitL_len] at h; exact h, HWZ.out⟩
        · replace HJ : Hid (hJ (vL l) (hTh l.length q) P 0 = hJ (vL l) (hTh l.length q) (P.drop (k + 1)) (k + 1)) := Lib.hid (HJ.out.trans (HST.out.trans (if_neg (fun h => hzz (HCM.out.1 h)))))
          have HO9 : Hid (OwnZ (Y.setCell ⟨w3'.heap.size, i, none⟩ (.bool true)) w3'.heap.size (bitL l.length (P.take (k + 1)))) := Lib.hid (by have h := HO.out.set (i := i) (by rw [bitL_len]; exact HIN.out) true; rw [bitL_set HIN.out, ← HTK.out] at h; exact h)
          have HB9 : Hid (Below w3'.heap.size w3' (Y.setCell ⟨w3'.heap.size, i, none⟩ (.bool true))) := Lib.hid (HBL.out.setCell (p := ⟨w3'.heap.size, i, none⟩) (Nat.le_refl _) _)
          have c_o := HO.out.cell (i := i) (by rw [bitL_len]; exact HIN.out)
          have f_o : Y.frozen? ⟨w3'.heap.size, i, none⟩ = false := HO.out.frozen i
          go_wp2
          go_roundw
          case rel => exact ⟨k + 1, by omega, by go_num, HJ, HO9, HB9⟩
          case measure => simp [intOf]; omega
      · have hkl : k = l.length := by omega
        have HJ9 : Hid (hJ (vL l) (hTh l.length q) P 0 = k) := Lib.hid (by rw [HJ.out, List.drop_of_length_le (by rw [HPL.out]; omega)]; rfl)
        have HL9 : Hid (holmB (vL l) q l.length = bitL l.length (P.take k)) := Lib.hid (by rw [← bit_holm HPK.out HLI.out.2, HJ9.out])
        have HWZ : Hid (Below w.heap.size w X) := Lib.hid (ext_trans HW.out HBL.out)
        clear hkl
        go_wp2
        exact bodyPost_ret (v := .tuple #[.slice (some ⟨w3'.heap.size, 0, none⟩) l.length l.length, .int .i64 0]) (by simp [results, Tryz.results18, go_sem]) rfl ⟨_, l.length, _, by rw [HV.out], by rw [HV.out, HL9.out]; have h := RowIf.good (c := l.length) HO.out (by rw [bitL_len]; exact Nat.le_refl _) (by unfold maxLen; omega); rw [bitL_len] at h; exact h, HWZ.out⟩
  · have hne : (rkF l n d != 0) = true := by simp [hf]
    have HNE := Lib.hid hf
    clear hf
    go_wp2
    exact bodyPost_ret (v := .tuple #[.slice none 0 0, .int .i64 (rkF l n d)]) (by simp [results, Tryz.results18, go_sem]) rfl ⟨none, 0, 0, rfl, RowIf.bad HNE.out, HW.out⟩
end Nm
end Go.Proofs.YtemenlcigengeaaGreatDoor
