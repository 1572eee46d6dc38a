/- WriteString of a strings.Builder of the call's own (the builder's other methods stand in the shelf). Text of logs: of package event and of the reference. Printed by gen_logt.py. slices.Reverse at texts. strings.SplitAfter at newlines; its pieces turned round and joined. Printed by gen_lawlog.py. slices.Equal at events that are the same. -/
import Derived.Test.YtbgbfjfboaajbaaDoorProg
import Derived.Test.YtbgbfjfboaajbaaDoorEl00
import Derived.Lib.Strings
import Derived.Lib.Walk
import Derived.Lib.Builder
import Derived.Lib.AppendStr
import Derived.WalkKit
import Derived.Laws.Externs
import Derived.Test.YtbgbfjfboaajbaaDoorEl10
import Derived.Test.YtbgbfjfboaajbaaDoorEl14
import Derived.Test.YtbgbfjfboaajbaaDoorEl03
import Derived.Test.YtbgbfjfboaajbaaDoorEl04
namespace Go.Proofs.YtbgbfjfboaajbaaDoor
open Go.RowKit
theorem bld_info : ∃ j, Tryd.prog.info? 40 = some j ∧ j.size = 2 :=
  Option.map_eq_some_iff.1 (show (Tryd.prog.info? 40).map (·.size) = some 2 by kernel_rfl)
theorem bld_lies : liesAt Tryd.prog Tryd.prog.depth 40 (2 / Tryd.prog.cellsOf 40) 0 40 1 = true := by kernel_rfl
theorem byte_info : (Tryd.prog.info? 5).map (fun i => (i.zero, i.size, i.bytes)) = some (some (.int .u8 0), 1, 1) := by kernel_rfl
set_option maxHeartbeats 1000000 in
set_option maxRecDepth 100000 in
theorem bld_check_used (b : Nat) (w : World) (h0 : w.cell? ⟨b, 0, none⟩ = some (.pointer (some ⟨b, 0, none⟩))) :
    Calls Tryd.prog 23 #[.pointer (some ⟨b, 0, none⟩)] w fun e w' => e = .returned (.tuple #[]) ∧ w' = w := by
  obtain ⟨j, hj, _⟩ := bld_info
  go_enter Tryd.func23, Tryd.ntmps23
  go_wp2
  rw [Lib.run_neq_ptr_same w _ Tryd.underlying37 hj]
  go_wp2
  go_end0
  exact ⟨rfl, rfl⟩
set_option maxHeartbeats 1000000 in
set_option maxRecDepth 100000 in
theorem bld_check_fresh (b : Nat) (w : World) (h0 : w.cell? ⟨b, 0, none⟩ = some (.pointer none)) (hsh : w.shape? b = some (40, 2)) (hfz : w.frozen? ⟨b, 0, none⟩ = false) :
    Calls Tryd.prog 23 #[.pointer (some ⟨b, 0, none⟩)] w fun e w' => e = .returned (.tuple #[]) ∧ w' = w.setCell ⟨b, 0, none⟩ (.pointer (some ⟨b, 0, none⟩)) := by
  obtain ⟨j, hj, hjs⟩ := bld_info
  go_enter Tryd.func23, Tryd.ntmps23
  go_wp2
  rw [Lib.run_to_unsafe w ⟨b, 0, none⟩ Tryd.underlying37 Tryd.underlying71 hj (by rw [hjs]; decide) hsh (Nat.zero_lt_succ 1)]
  simp only [Result.andThen]
  rw [Oper.upon_value]
  go_wp2
  rw [run_callFunc_extern Tryd.func42 (by kernel_rfl) (by kernel_rfl) (by kernel_rfl) (e := Extern.AbiNoEscape.same) (by kernel_rfl)]
  rw [Lib.run_noEscape]
  simp only [Result.andThen]
  rw [Oper.upon_value]
  go_wp2
  rw [Lib.run_from_unsafe w ⟨b, 0, none⟩ Tryd.underlying71 Tryd.underlying37 hj hsh bld_lies]
  simp only [Result.andThen]
  rw [Oper.upon_value]
  go_wp2
  go_end0
  exact ⟨rfl, rfl⟩
theorem bld_check (B b : Nat) (bs : List Value) (w : World) (h : Lib.IsBuilder 40 5 B b bs w) :
    Calls Tryd.prog 23 #[.pointer (some ⟨b, 0, none⟩)] w fun e w' => e = .returned (.tuple #[]) ∧ (Lib.BuilderAt 40 5 B b (.pointer (some ⟨b, 0, none⟩)) bs w' ∧ Below B w w') := by
  rcases h with h | h
  · refine (bld_check_fresh b w h.cell0 h.shape h.frozen0).mono ?_
    rintro e w' ⟨rfl, rfl⟩
    exact ⟨rfl, h.used _, (Below.refl B w).setCell (p := ⟨b, 0, none⟩) h.1 _⟩
  · refine (bld_check_used b w h.cell0).mono ?_
    rintro e w' ⟨rfl, rfl⟩
    exact ⟨rfl, h, Below.refl B _⟩
set_option maxHeartbeats 2000000 in
set_option maxRecDepth 100000 in
/-- WriteString, under Go's own limit -/
theorem bld_write (B b : Nat) (bs : List Value) (s : ByteArray) (w : World) (h : Lib.IsBuilder 40 5 B b bs w) (hlen : bs.length + s.size ≤ 140737488355328) (hBw : B ≤ w.heap.size) :
    Calls Tryd.prog 11 #[.pointer (some ⟨b, 0, none⟩), .string s] w fun e w' => e = .returned (.tuple #[.int .i64 s.size, .nilIface]) ∧ (Lib.IsBuilder 40 5 B b (bs ++ Lib.strCells s) w' ∧ Below B w w') := by
  obtain ⟨i0, hi, hz0, hz1, hz2⟩ := info_parts byte_info
  go_enter Tryd.func11, Tryd.ntmps11
  go_wp2_with (go_at_call 23; refine (bld_check B b bs _ h).mono ?_)
  rintro e w1 ⟨rfl, h1, hb1⟩
  obtain ⟨hB, v, hbk, hown, hne⟩ := h1
  have c0 : w1.cell? ⟨b, 0, none⟩ = some (.pointer (some ⟨b, 0, none⟩)) := by rw [Lib.cell_of_heap hbk]; rfl
  have c1 : w1.cell? ⟨b, 1, none⟩ = some v := by rw [Lib.cell_of_heap hbk]; rfl
  go_wp2_with (at_builtin; refine Lib.wpList_append_own_string _ rfl _ _ 38 9 rfl B 5 i0 Tryd.underlying38 Tryd.underlying9 hi hz0 hz1 hz2 _ _ _ rfl hown s rfl ?c3 ?c4 ?c5 ?_)
  case c3 => unfold maxLen; omega
  case c4 => omega
  case c5 => have := hb1.size; omega
  intro v' w2 hown' hgrow _
  have hlt : b < w1.heap.size := by
    rcases Nat.lt_or_ge b w1.heap.size with h' | h'
    · exact h'
    · simp [Array.getElem?_eq_none h'] at hbk
  have hb2 : w2.heap[b]? = some (.cells #[.pointer (some ⟨b, 0, none⟩), v] 40 (0, 0)) := by
    rw [hgrow.block b hlt (fun e => hne e.symm)]
    exact hbk
  have d0 : w2.cell? ⟨b, 0, none⟩ = some (.pointer (some ⟨b, 0, none⟩)) := by rw [Lib.cell_of_heap hb2]; rfl
  have d1 : w2.cell? ⟨b, 1, none⟩ = some v := by rw [Lib.cell_of_heap hb2]; rfl
  have f1 : w2.frozen? ⟨b, 1, none⟩ = false := Lib.frozen_of_heap hb2 1
  obtain ⟨ao, n', cap, rfl⟩ : ∃ ao n' cap, v' = .slice ao n' cap := by
    rcases hown'.2 with ⟨hv, _⟩ | ⟨g, cap, cur, hv, _⟩
    · exact ⟨_, _, _, hv⟩
    · exact ⟨_, _, _, hv⟩
  go_wp2
  go_ret2
  refine ⟨rfl, .inr ?_, ?_⟩
  · exact Lib.BuilderAt.put (T := 40) (e := 5) hB hb2 (bs' := bs ++ Lib.strCells s) (by simpa [Lib.strCells_length] using hown') (by decide)
  · exact (hb1.grown hgrow (by have := hb1.size; omega) (fun k hk => (hown.lt k hk).1)).setCell (p := ⟨b, 1, none⟩) hB _
end Go.Proofs.YtbgbfjfboaajbaaDoor
namespace Go.Proofs.YtbgbfjfboaajbaaDoor
open Go.RowKit
namespace Tx
theorem isb_ext {T e : TypeId} {B b : Nat} {bs : List Value} {w w' : World} (h : Lib.IsBuilder T e B b bs w) (hb : Below w.heap.size w w') : Lib.IsBuilder T e B b bs w' := by
 have go : ∀ p, Lib.BuilderAt T e B b p bs w → Lib.BuilderAt T e B b p bs w' := fun p h => by
  have hlt := h.lt
  obtain ⟨h1, v, h2, h3, h4⟩ := h
  exact ⟨h1, v, by rw [hb.block b hlt]; exact h2, ownsRow_ext h3 hb, h4⟩
 rcases h with h | h
 ·exact .inl (go _ h)
 ·exact .inr (go _ h)
theorem wp_bld {P : Program} {c : Code} {Q : Exit → Act → World → Prop} {a : Act} {w : World} {T e : TypeId} (h : ∀ W, Below w.heap.size w W → Lib.IsBuilder T e w.heap.size w.heap.size [] W → c.wp P Q a W) : c.wp P Q a (w.alloc (.cells #[.pointer none, .slice none 0 0] T)) := h _ (ext_alloc _ _) (Lib.fresh_isBuilder T e w)
theorem takeE_small {l : List Ev} (h : checkL l = 0) (k : Nat) : (textE (l.take k)).length ≤ 6020000 := by
 obtain ⟨h1, _, h2⟩ := checkL_good h
 have h3 := textE_len (l := l.take k) (fun m hm => rightE_of (h2 m (List.mem_of_mem_take hm)))
 have h4 : (l.take k).length ≤ 20000 := Nat.le_trans (List.length_take_le' _ _) h1
 have h5 : (l.take k).length * 301 ≤ 20000 * 301 := Nat.mul_le_mul_right _ h4
 omega
theorem lineE_app {e : Ev} {st : ByteArray} (h : st = stB (showE e)) : st ++ (⟨#[10]⟩ : ByteArray) = stB (lineE e) := by
 subst h
 apply ByteArray.ext
 simp [stB, lineE]
set_option maxRecDepth 100000 in
set_option maxHeartbeats 16000000 in
theorem evText_at (l : List Ev) (hok : ∀ e ∈ l, e.ok) (a : Option Addr) (c : Nat) (w : World) (hs : Sl w (.slice a l.length c) l.length (l.flatMap evL)) (ht : Tb w) : Calls Tryd.prog 4 #[.slice a l.length c] w fun e w' => e = .returned (.tuple #[.string (stB (ltT l)), .int .i64 (ltF l)]) ∧ Below w.heap.size w w' := by
 have HOK := Lib.hid hok
 have HS := Lib.hid hs
 have HT0 := Lib.hid ht
 clear hok hs ht
 go_enter Tryd.func4, Tryd.ntmps4
 go_wp2_with fail
 refine (event_CheckLog l HOK.out a c w HS.out).mono ?_
 rintro e w1 ⟨rfl, hb1⟩
 obtain ⟨f, hf⟩ : ∃ z, checkL l = z := ⟨_, rfl⟩
 have HF := Lib.hid hf
 rw [hf]
 have hl : l.length ≤ 9223372036854775807 := by obtain ⟨_, _, hv, h1, h2, _⟩ := HS.out; cases hv; unfold maxLen at h2; omega
 clear hf
 by_cases h0 : f = 0
 ·subst h0
  have HA := Lib.hid (checkL_good HF.out)
  go_upto_region 5 with (fail)
  refine wp_bld (e := 5) fun X0 hbX0 hB0 => ?_
  go_wp2
  go_loopw [15] (fun i wr => ∃ k : Nat, k ≤ l.length ∧ i = .int .i64 k ∧ Hid (Lib.IsBuilder 40 5 w1.heap.size w1.heap.size (Lib.byteCells (textE (l.take k))) wr) ∧ Below w1.heap.size w1 wr) (fun i _ => l.length - (intOf i).toNat)
  case atStart => exact ⟨0, by omega, rfl, Lib.hid hB0, hbX0⟩
  case round =>
   obtain ⟨k, hk, rfl, HB, hbr⟩ := hrel
   have hlk := takeE_small HF.out k
   by_cases hlt : k < l.length
   ·have hgk := List.getElem?_eq_getElem hlt
    have hmr := rightE_of (HA.out.2.2 _ (List.getElem_mem hlt))
    generalize l[k] = m at hgk hmr
    have HMR := Lib.hid hmr
    have HTK := Lib.hid (textE_take hgk)
    obtain ⟨b, o, rfl, e0, e1, e2, e3, e4, e5, e6, e7⟩ := event_cells (HS.out.ext (ext_trans hb1 hbr)) hgk
    have hk0 : (0 : Int) ≤ (k : Int) := Int.natCast_nonneg _
    have hk1 : (k : Int) < (l.length : Int) := by omega
    have hsl9 := show_len hmr
    have HSH := Lib.hid (fun W9 t9 => evshow_at m HMR.out W9 t9)
    obtain ⟨st, hst⟩ : ∃ z, stB (showE m) = z := ⟨_, rfl⟩
    rw [hst] at HSH
    have HST := Lib.hid hst
    have hzs : st.size ≤ 300 := by rw [← hst, stB_size]; exact hsl9
    clear hgk hmr hst hsl9
    go_upto_region 8 with (fail)
    clear e0 e1 e2 e3 e4 e5 e6 e7
    refine wp_box1 fun X hszX hbX hM => ?_
    obtain ⟨_, hM2⟩ := id hM
    clear hM hszX
    have HB2 := Lib.hid (isb_ext HB.out hbX)
    have hb6 := ext_trans hbr hbX
    clear HB hbr hbX
    have hs2 : (⟨#[10]⟩ : ByteArray).size = 1 := rfl
    have hs3 := ByteArray.size_append (a := st) (b := (⟨#[10]⟩ : ByteArray))
    go_wp2_with fail
    refine (HSH.out X (HT0.out.ext (ext_trans hb1 hb6))).mono ?_
    rintro e w5 ⟨rfl, hb5⟩
    have HB3 := Lib.hid (isb_ext HB2.out hb5)
    have hb7 := ext_trans hb6 hb5
    clear HB2 hb6 hb5 hM2
    go_wp2_with fail
    refine (bld_write w1.heap.size w1.heap.size _ (st ++ (⟨#[10]⟩ : ByteArray)) w5 HB3.out (by rw [Lib.byteCells_length]; omega) hb7.size).mono ?_
    rintro e w8 ⟨rfl, hB8, hb8⟩
    have hb9 := hb7.trans hb8
    have HB8 : Hid (Lib.IsBuilder 40 5 w1.heap.size w1.heap.size (Lib.byteCells (textE (l.take (k + 1)))) w8) := Lib.hid (by
     rw [HTK.out, Lib.byteCells_append]
     rw [lineE_app HST.out.symm, Lib.strCells_eq] at hB8
     exact hB8)
    clear hB8 hb8 hb7 HB3 hs3
    go_wp2
    go_roundw
    case rel => exact ⟨k + 1, by omega, by go_num, HB8, hb9⟩
    case measure => simp [intOf]; omega
   ·have HT9 : Hid (l.take k = l) := Lib.hid (List.take_of_length_le (by omega))
    rw [HT9.out] at HB hlk
    have hle := @Lib.byteCells_length (textE l)
    obtain ⟨n, hn⟩ : ∃ z, (textE l).length = z := ⟨_, rfl⟩
    have HNL := Lib.hid hn
    rw [hn] at hle hlk
    clear hn
    go_wp2_with fail
    refine (Tryd.Builder_Len w1.heap.size w1.heap.size _ wr HB.out).mono ?_
    rintro e wq ⟨rfl, hwq⟩
    obtain rfl := hwq.symm
    rw [hle]
    by_cases hlong : 3000000 < n
    ·have hlong' : (3000000 : Int) < (n : Int) := by omega
     have HN : Hid (ltF l = 2 ∧ ltT l = []) := Lib.hid (by
      have h9 : ltF l = 2 := by unfold ltF; rw [if_neg (by simp [HF.out]), HNL.out, if_pos hlong]
      exact ⟨h9, by unfold ltT; rw [if_neg (by rw [h9]; decide)]⟩)
     clear hlong
     go_wp2
     exact bodyPost_ret (v := .tuple #[.string ⟨#[]⟩, .int .i64 2]) (by simp [results, Tryd.results4, go_sem]) rfl ⟨by rw [HN.out.1, HN.out.2]; rfl, ext_trans hb1 hbr⟩
    ·have hlong' : ¬ (3000000 : Int) < (n : Int) := by omega
     have HN : Hid (ltF l = 0 ∧ ltT l = textE l) := Lib.hid (by
      have h9 : ltF l = 0 := by unfold ltF; rw [if_neg (by simp [HF.out]), HNL.out, if_neg hlong]
      exact ⟨h9, by unfold ltT; rw [if_pos h9]⟩)
     clear hlong
     go_wp2_with fail
     refine (Tryd.Builder_String_any w1.heap.size w1.heap.size _ wr HB.out hbr.size).mono ?_
     rintro e w8 ⟨rfl, hb8⟩
     have hb9 := ext_trans hb1 (hbr.trans hb8)
     obtain ⟨st, hst⟩ : ∃ z, (⟨(textE l).toArray⟩ : ByteArray) = z := ⟨_, rfl⟩
     have HST : Hid (st = stB (ltT l)) := Lib.hid (by rw [HN.out.2, ← hst]; rfl)
     rw [hst]
     clear hst hb8
     go_wp2
     exact bodyPost_ret (v := .tuple #[.string st, .int .i64 0]) (by simp [results, Tryd.results4, go_sem]) rfl ⟨by rw [HST.out, HN.out.1], hb9⟩
 ·have hne : (f != 0) = true := by simpa using h0
  have HN : Hid (ltF l = f ∧ ltT l = []) := Lib.hid (by
   have h9 : ltF l = f := by unfold ltF; rw [if_pos (by rw [HF.out]; exact h0), HF.out]
   exact ⟨h9, by unfold ltT; rw [if_neg (by rw [h9]; exact h0)]⟩)
  clear h0
  go_wp2
  exact bodyPost_ret (v := .tuple #[.string ⟨#[]⟩, .int .i64 f]) (by simp [results, Tryd.results4, go_sem]) rfl ⟨by rw [HN.out.1, HN.out.2]; rfl, hb1⟩
end Tx
end Go.Proofs.YtbgbfjfboaajbaaDoor
namespace Go.Proofs.YtbgbfjfboaajbaaDoor
open Go.RowKit
namespace Rs
theorem strs_len (l : List ByteArray) : (strs l).length = l.length := by simp [strs]
theorem strs_app (l m : List ByteArray) : strs (l ++ m) = strs l ++ strs m := by simp [strs]
theorem strs_get' (l : List ByteArray) (i : Nat) (h : i < l.length) : (strs l)[i]? = some (.string l[i]) := by simp [strs, h]
/-- the block b is the call's own row of texts, with whatever spare cells behind them -/
def OwnB (w : World) (b : Nat) (l : List ByteArray) : Prop := ∃ cur rest, w.heap[b]? = some (.cells cur 9 (0, 0)) ∧ cur.toList = strs l ++ rest
theorem OwnB.lt {w : World} {b : Nat} {l : List ByteArray} (h : OwnB w b l) : b < w.heap.size := by
  obtain ⟨cur, rest, h, _⟩ := h
  rcases Nat.lt_or_ge b w.heap.size with hlt | hge
  · exact hlt
  · rw [Array.getElem?_eq_none hge] at h; cases h
theorem OwnB.cell {w : World} {b : Nat} {l : List ByteArray} (h : OwnB w b l) {i : Nat} (hi : i < l.length) : w.cell? ⟨b, i, none⟩ = some (.string l[i]) := by
  obtain ⟨cur, rest, h, hc⟩ := h
  have := cell_of_row w b i _ _ (0, 0) h
  rw [this, ← Array.getElem?_toList, hc, List.getElem?_append_left (by rw [strs_len]; exact hi), strs_get' _ _ hi]
theorem OwnB.frozen {w : World} {b : Nat} {l : List ByteArray} (h : OwnB w b l) (i : Nat) : w.frozen? ⟨b, i, none⟩ = false := by
  obtain ⟨cur, rest, h, hc⟩ := h; simp [World.frozen?, h]
theorem OwnB.set {w : World} {b : Nat} {l : List ByteArray} (h : OwnB w b l) {i : Nat} (hi : i < l.length) (x : ByteArray) : OwnB (w.setCell ⟨b, i, none⟩ (.string x)) b (l.set i x) := by
  obtain ⟨cur, rest, h, hc⟩ := h
  refine ⟨cur.setIfInBounds i (.string x), rest, ?_, ?_⟩
  · simp only [World.setCell, Array.getElem?_modify, h]; simp
  · rw [Array.toList_setIfInBounds, hc, List.set_append_left _ _ (by rw [strs_len]; exact hi)]
    simp [strs, List.map_set]
theorem OwnB.take {w : World} {b : Nat} {l : List ByteArray} (h : OwnB w b l) (k : Nat) : OwnB w b (l.take k) := by
  obtain ⟨cur, rest, h, hc⟩ := h
  refine ⟨cur, strs (l.drop k) ++ rest, h, ?_⟩
  rw [hc, ← List.append_assoc, ← strs_app, List.take_append_drop]
theorem only_setCell {a w : World} {g : Nat} (h : a.grownBy w (some g)) {i : Nat} (u : Value) : a.grownBy (w.setCell ⟨g, i, none⟩ u) (some g) :=
  ⟨h.os, h.tape, h.output, by simpa [World.setCell] using h.size, fun j hj hne => (Below.heap_setCell w ⟨g, i, none⟩ u j (by
    rintro rfl; exact hne rfl)).trans (h.block j hj hne)⟩
/-- half turned round -/
def Half (l S : List ByteArray) (i : Nat) : Prop := S.length = l.length ∧ ∀ k (h : k < l.length), S[k]? = some (if k < i ∨ l.length - i ≤ k then l[l.length - 1 - k]'(by omega) else l[k])
theorem Half.start (l : List ByteArray) : Half l l 0 := ⟨rfl, fun k h => by rw [List.getElem?_eq_getElem h, if_neg (by omega)]⟩
theorem Half.step {l S : List ByteArray} {i j : Nat} (h : Half l S i) (hij : i < j) (hs : i + j + 1 = l.length) (h1 : i < S.length) (h2 : j < S.length) : Half l ((S.set i S[j]).set j S[i]) (i + 1) := by
  obtain ⟨hl, hk⟩ := h
  refine ⟨by simp [hl], fun k hkl => ?_⟩
  have ej : S[j] = l[j]'(by omega) := by
    have := hk j (by omega)
    rw [List.getElem?_eq_getElem h2, if_neg (by omega)] at this
    exact Option.some.inj this
  have ei : S[i] = l[i]'(by omega) := by
    have := hk i (by omega)
    rw [List.getElem?_eq_getElem h1, if_neg (by omega)] at this
    exact Option.some.inj this
  rw [List.getElem?_set]
  by_cases hkj : j = k
  · subst hkj
    rw [if_pos rfl, if_pos (by simp; omega), if_pos (by omega), ei]
    congr 2; omega
  · rw [if_neg hkj, List.getElem?_set]
    by_cases hki : i = k
    · subst hki
      rw [if_pos rfl, if_pos (by omega), if_pos (by omega), ej]
      congr 2; omega
    · rw [if_neg hki, hk k hkl]
      congr 1
      by_cases hc : k < i ∨ l.length - i ≤ k
      · rw [if_pos hc, if_pos (by omega)]
      · rw [if_neg hc, if_neg (by omega)]
theorem Half.done {l S : List ByteArray} {i j : Nat} (h : Half l S i) (hij : j ≤ i) (hs : i + j + 1 = l.length) : S = l.reverse := by
  obtain ⟨hl, hk⟩ := h
  apply List.ext_getElem?
  intro k
  by_cases hkl : k < l.length
  · rw [hk k hkl, List.getElem?_reverse hkl]
    by_cases hc : k < i ∨ l.length - i ≤ k
    · rw [if_pos hc, List.getElem?_eq_getElem (by omega)]
    · rw [if_neg hc, List.getElem?_eq_getElem (by omega)]
      congr 2; omega
  · rw [List.getElem?_eq_none (by omega), List.getElem?_eq_none (by simp; omega)]
def RevPost (w : World) (b : Nat) (l : List ByteArray) (e : Ending) (w' : World) : Prop := e = .returned (.tuple #[]) ∧ OwnB w' b l.reverse ∧ w.grownBy w' (some b)
set_option maxHeartbeats 8000000 in
theorem reverse_at (l : List ByteArray) (hl : 0 < l.length) (hl2 : l.length ≤ 1000000000000) (b c : Nat) (w : World) (hO : OwnB w b l) : Calls Tryd.prog 6 #[.slice (some ⟨b, 0, none⟩) l.length c] w (RevPost w b l) := by
  go_enter Tryd.func6, Tryd.ntmps6
  go_wp2
  go_loopw [2, 3] (fun iv jv wr => ∃ (i : Nat) (S : List ByteArray), i ≤ l.length ∧ 2 * i ≤ l.length ∧ iv = .int .i64 i ∧ jv = .int .i64 ((l.length : Int) - 1 - i) ∧ Hid (Half l S i) ∧ OwnB wr b S ∧ w.grownBy wr (some b)) (fun iv _ _ => l.length - (intOf iv).toNat)
  case atStart => exact ⟨0, l, by omega, by omega, rfl, by simp, Half.start l, hO, World.grownBy.refl w _⟩
  case round =>
    obtain ⟨i, S, hi, hi2, rfl, rfl, HH, hOS, hg⟩ := hrel
    by_cases hlt : 2 * i + 1 < l.length
    · obtain ⟨j, hj⟩ : ∃ j, j = l.length - 1 - i := ⟨_, rfl⟩
      have hij : i < j := by omega
      have hs : i + j + 1 = l.length := by omega
      have hS : S.length = l.length := HH.out.1
      have h1 : i < S.length := by omega
      have h2 : j < S.length := by omega
      have HN := Lib.hid (HH.out.step hij hs h1 h2)
      have c1 := hOS.cell h1
      have c2 := hOS.cell h2
      have d1 := hOS.frozen i
      have d2 := hOS.frozen j
      have hO1 := hOS.set h1 S[j]
      have hO2 := hO1.set (i := j) (by rw [List.length_set]; exact h2) S[i]
      have hg2 := only_setCell (only_setCell hg (i := i) (.string S[j])) (i := j) (.string S[i])
      rw [show ((l.length : Int) - 1 - (i : Int)) = (j : Int) by omega]
      have HSS := Lib.hid hs
      have hjl : j < l.length := by omega
      have hil : i < l.length := by omega
      have hne1 : ¬ (i = j) := by omega
      have hne2 : ¬ (j = i) := by omega
      clear hj hS hs
      generalize S[i] = x at *
      generalize S[j] = y at *
      go_wp2
      go_region
      have hO3 : OwnB ((wr.setCell ⟨b, i, none⟩ (.string y)).setCell ⟨b, j, none⟩ (.string x)).drew b ((S.set i y).set j x) := hO2
      have hg3 : w.grownBy ((wr.setCell ⟨b, i, none⟩ (.string y)).setCell ⟨b, j, none⟩ (.string x)).drew (some b) := ⟨hg2.os, hg2.tape, hg2.output, hg2.size, hg2.block⟩
      clear hO1 hO2 hg2 c1 c2 d1 d2
      go_wp2
      go_roundw
      case rel => exact ⟨i + 1, _, by omega, by have := HSS.out; omega, by go_num, congrArg (Value.int .i64) (by have := HSS.out; omega), HN, hO3, hg3⟩
      case measure => simp [intOf]; omega
    · have HD : Hid (S = l.reverse) := HH.out.done (j := l.length - 1 - i) (by omega) (by omega)
      have hle : (l.length : Int) - 1 - (i : Int) ≤ (i : Int) := by omega
      go_wp2
      go_end0
      exact ⟨rfl, by rw [← HD.out]; exact hOS, hg⟩
end Rs
end Go.Proofs.YtbgbfjfboaajbaaDoor
namespace Go.Proofs.YtbgbfjfboaajbaaDoor
open Go.RowKit
namespace Tx
open _root_.Go.Proofs.YtbgbfjfboaajbaaDoor.Rs (OwnB RevPost OwnB.cell reverse_at)
theorem OwnB_ext {w w' : World} {b : Nat} {l : List ByteArray} (h : OwnB w b l) (hb : Below w.heap.size w w') : OwnB w' b l := by
 obtain ⟨cur, rest, h1, h2⟩ := h
 exact ⟨cur, rest, by rw [hb.block b (Array.getElem?_eq_some_iff.1 h1).1]; exact h1, h2⟩
theorem own_new (w : World) (l : List ByteArray) : OwnB (w.alloc (.cells (l.map Value.string).toArray 9)) w.heap.size l := by
 refine ⟨(l.map Value.string).toArray, [], ?_, ?_⟩
 ·exact heap_alloc_new w _
 ·simp [strs]
/-- the pieces of a text, each with its newline -/
def pcsA (s : ByteArray) : List ByteArray := Lib.splitB ⟨#[10]⟩ 1 (Lib.countB s ⟨#[10]⟩) s
theorem pcsA_data (s : ByteArray) : (pcsA s).map (·.data.toList) = Lib.splitK [10] 1 (Lib.count s.data.toList [10]) s.data.toList := Lib.splitB_data _ _ _ _
theorem pcsA_len (s : ByteArray) : (pcsA s).length = Lib.countB s ⟨#[10]⟩ + 1 := Lib.splitB_all ⟨#[10]⟩ (Nat.le_refl 1) 1 _ s rfl
set_option maxHeartbeats 2000000 in
theorem after_at (s : ByteArray) (hs : s.size ≤ 4194304) (w : World) (hm : Ml w) : Calls Tryd.prog 5 #[.string s, .string ⟨#[10]⟩] w fun e w' => e = .returned (.slice (some ⟨w.heap.size, 0, none⟩) (pcsA s).length (pcsA s).length) ∧ (pcsA s).length ≤ 4194305 ∧ OwnB w' w.heap.size (pcsA s) ∧ Below w.heap.size w w' := by
 obtain ⟨m, hm⟩ := hm
 have hle := Lib.countB_le ⟨#[10]⟩ (Nat.le_refl 1) s.size s (Nat.le_refl _)
 have hlen := pcsA_len s
 have c := Tryd.strings_genSplit s ⟨#[10]⟩ 1 (-1) (Lib.countB s ⟨#[10]⟩ + 1) m w (by omega) hm (Nat.le_refl 1) (Nat.le_refl 1) (by decide) (by decide) (by rw [if_pos (by decide)]; omega)
 rw [Nat.add_sub_cancel] at c
 rw [show Lib.splitB ⟨#[10]⟩ 1 (Lib.countB s ⟨#[10]⟩) s = pcsA s from rfl, ← hlen, show Lib.cellsOf (pcsA s) (pcsA s).length = ((pcsA s).map Value.string).toArray from Lib.cellsOf_full _] at c
 obtain ⟨P, hP⟩ : ∃ z, pcsA s = z := ⟨_, rfl⟩
 rw [hP] at hlen c ⊢
 have hb : P.length ≤ 4194305 := by omega
 have HC := Lib.hid c
 have HB := Lib.hid hb
 clear c hb hlen hle hs hm hP
 go_enter Tryd.func5, Tryd.ntmps5
 go_wp2_with fail
 refine HC.out.mono ?_
 rintro e w' ⟨rfl, rfl⟩
 have h1 := own_new w P
 go_wp2
 go_ret
 exact ⟨rfl, HB.out, h1, ext_alloc _ _⟩
/-- what a slice of texts is, joined with nothing between -/
theorem joinN_at (l : List ByteArray) (b c : Nat) (w : World) (h : OwnB w b l) (h1 : l.length ≤ c) (hl : l.length ≤ 4194305) (ht : ((l.map (·.data.toList)).flatten).length ≤ 4194304) :
  Calls Tryd.prog 8 #[.slice (some ⟨b, 0, none⟩) l.length c, .string ⟨#[]⟩] w fun e w' => e = .returned (.string (stB ((l.map (·.data.toList)).flatten))) ∧ Below w.heap.size w w' := by
 have hj : Lib.join (l.map (·.data.toList)) (⟨#[]⟩ : ByteArray).data.toList = (l.map (·.data.toList)).flatten := join_none _
 refine (Tryd.strings_Join b 0 c l ⟨#[]⟩ w (fun j y hy => ?_) ?_ (by omega) h1 (by rw [hj]; omega)).mono ?_
 ·obtain ⟨hjl, rfl⟩ := List.getElem?_eq_some_iff.1 hy
  rw [Nat.zero_add]; exact h.cell hjl
 ·obtain ⟨cur, rest, h2, _⟩ := h
  exact (Array.getElem?_eq_some_iff.1 h2).1
 ·rintro e w' ⟨rfl, hb⟩
  rw [hj]
  exact ⟨rfl, hb⟩
theorem pcsA_pos (s : ByteArray) : 0 < (pcsA s).length := by rw [pcsA_len]; omega
theorem rev_pcs {l : List Ev} (h : ∀ e ∈ l, RightE e) : (((pcsA (stB (textE l))).reverse.map (·.data.toList)).flatten) = textE l.reverse := by
 rw [List.map_reverse, pcsA_data, stB_list, after_text h]
 exact rev_text l
end Tx
end Go.Proofs.YtbgbfjfboaajbaaDoor
namespace Go.Proofs.YtbgbfjfboaajbaaDoor
open Go.RowKit
set_option maxRecDepth 100000 in
set_option maxHeartbeats 8000000 in
theorem equal_events (l : List Ev) (a a' : Option Addr) (c c' : Nat) (w : World) (s1 : Sl w (.slice a l.length c) l.length (l.flatMap evL)) (s2 : Sl w (.slice a' l.length c') l.length (l.flatMap evL)) :
    Calls Tryd.prog 9 #[.slice a l.length c, .slice a' l.length c'] w fun e w' => e = .returned (.bool true) ∧ Below w.heap.size w w' := by
  have hl : l.length ≤ 9223372036854775807 := by obtain ⟨_, _, hv, h1, h2, _⟩ := s1; cases hv; unfold maxLen at h2; omega
  have hne : ((l.length : Int) != (l.length : Int)) = false := by simp
  go_enter Tryd.func9, Tryd.ntmps9
  go_wp2
  go_loopw [13] (fun i wr => ∃ k : Nat, k ≤ l.length ∧ i = .int .i64 k ∧ Below w.heap.size w wr) (fun i _ => l.length - (intOf i).toNat)
  case atStart => exact ⟨0, by omega, rfl, Below.refl _ _⟩
  case round =>
    obtain ⟨k, hk, rfl, hb⟩ := hrel
    by_cases hlt : k < l.length
    · have hgk := List.getElem?_eq_getElem hlt
      generalize l[k] = s at hgk
      obtain ⟨b, o, rfl, hcs⟩ := (s1.ext hb).elem evL_len (by omega : 0 < 8) hgk
      obtain ⟨b', o', rfl, hcs'⟩ := (s2.ext hb).elem evL_len (by omega : 0 < 8) hgk
      have e0 := hcs 0 _ rfl
      have f0 := hcs' 0 _ rfl
      have e1 := hcs 1 _ rfl
      have f1 := hcs' 1 _ rfl
      have e2 := hcs 2 _ rfl
      have f2 := hcs' 2 _ rfl
      have e3 := hcs 3 _ rfl
      have f3 := hcs' 3 _ rfl
      have e4 := hcs 4 _ rfl
      have f4 := hcs' 4 _ rfl
      have e5 := hcs 5 _ rfl
      have f5 := hcs' 5 _ rfl
      have e6 := hcs 6 _ rfl
      have f6 := hcs' 6 _ rfl
      have e7 := hcs 7 _ rfl
      have f7 := hcs' 7 _ rfl
      rw [Nat.add_zero] at e0 f0
      clear hcs hcs' hgk
      have hi0 : (0 : Int) ≤ (k : Int) := Int.natCast_nonneg _
      have hi1 : (k : Int) < (l.length : Int) := by omega
      go_wp2_with fail
      go_quiet (fail)
      go_wp2
      exact ⟨⟨k + 1, by omega, by go_num, below_drewN hb _⟩, by simp [intOf]; omega⟩
    · go_wp2
      go_ret
      exact ⟨rfl, hb⟩

end Go.Proofs.YtbgbfjfboaajbaaDoor
