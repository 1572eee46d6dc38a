/- ratios, spread, variance, atLeast of package metric. Printed by gen_mome.py. -/
import Derived.Test.YtlbnjgnbpiidaaaGreatDoorB832
import Derived.Test.YtlbnjgnbpiidaaaGreatDoorB813
namespace Go.Proofs.YtlbnjgnbpiidaaaGreatDoor
open Go.RowKit
namespace Nm
open _root_.Go.Proofs.YtlbnjgnbpiidaaaGreatDoor.Nt (RH RH.cell RH.box RH.row RH.lt RH.new RH.ext RH.fre RH.set RH.other RH.row_other store_cells)

theorem rt_info : (Tryz.prog.info? 24).map (fun i => (i.zero, i.size, i.bytes)) = some (some (.agg #[.string ⟨#[]⟩, .string ⟨#[]⟩]), 2, 32) := by kernel_rfl
/-- numbers in a slice -/
structure XsQ (w : World) (qs : List Rat) (ts : List Y3) (a : Option Addr) (c : Nat) : Prop where
 len : ts.length = qs.length
 sl : Sl w (.slice a qs.length c) qs.length (ts.flatMap y3L)
 ok : ∀ (i : Nat) t q, ts[i]? = some t → qs[i]? = some q → XR w (y3V t) q
theorem XsQ.ext {w w' : World} {qs : List Rat} {ts : List Y3} {a : Option Addr} {c : Nat} (h : XsQ w qs ts a c) (hb : Below w.heap.size w w') : XsQ w' qs ts a c :=
 ⟨h.len, h.sl.ext hb, fun i t q h1 h2 => (h.ok i t q h1 h2).ext hb⟩
/-- ratios written so far -/
structure RO (w wr : World) (v : Value) (k : Nat) (qs : List Rat) : Prop where
 low : Below w.heap.size w wr
 own : wr.ownsRow w.heap.size 24 2 v k ((qs.take k).flatMap rtC)
theorem RO.ext {w wr w' : World} {v : Value} {k : Nat} {qs : List Rat} (h : RO w wr v k qs) (hb : Below wr.heap.size wr w') : RO w w' v k qs := ⟨ext_trans h.low hb, ownsRow_ext h.own hb⟩
theorem RO.push {w wr w' : World} {v v' : Value} {k : Nat} {qs : List Rat} {q : Rat} (h : RO w wr v k qs) (hq : qs[k]? = some q) (hown : w'.ownsRow w.heap.size 24 2 v' (k + 1) ((qs.take k).flatMap rtC ++ rtC q)) (hg : wr.grownBy w' v.ownBlock) : RO w w' v' (k + 1) qs := by
 have lt : ∀ q, v.ownBlock = some q → w.heap.size ≤ q := fun q e => (h.own.lt q e).1
 obtain ⟨hk, e⟩ := List.getElem?_eq_some_iff.1 hq
 refine ⟨h.low.grown hg h.low.size lt, ?_⟩
 rw [List.take_succ_eq_append_getElem hk, List.flatMap_append, e]
 simpa using hown
def RatsPost (w : World) (qs : List Rat) (e : Ending) (w' : World) : Prop := ∃ a c, e = .returned (.tuple #[.slice a qs.length c, .int .i64 0]) ∧ Sl w' (.slice a qs.length c) qs.length (qs.flatMap rtC) ∧ Below w.heap.size w w'
def Sp3Post (w : World) (n : Int) (q : Q5) (e : Ending) (w' : World) : Prop := ∃ ta tb tc : Y3, e = .returned (.tuple #[.agg #[.bool ta.b, .slice ta.a1 ta.n1 ta.c1, .slice ta.a2 ta.n2 ta.c2], .agg #[.bool tb.b, .slice tb.a1 tb.n1 tb.c1, .slice tb.a2 tb.n2 tb.c2], .agg #[.bool tc.b, .slice tc.a1 tc.n1 tc.c1, .slice tc.a2 tc.n2 tc.c2]]) ∧ XR w' (y3V ta) (spA n q) ∧ XR w' (y3V tb) (spB n q) ∧ XR w' (y3V tc) (spC n q) ∧ Below w.heap.size w w'
/-- the variance -/
def vrQ (n : Int) (q : Q5) : Rat := spA n q / ((n - 1 : Int) : Rat)
theorem QL.vr {n : Int} {q : Q5} (h : QL q) (h0 : 2 ≤ n) (h1 : n ≤ 20000) : Ln 201 10 (vrQ n q) :=
 ((h.spA (by omega) h1).div (ln_n (n := n - 1) (by omega) (by omega)) (n_ne (n := n - 1) (by omega))).mono (by omega) (by omega)
set_option maxRecDepth 100000 in
set_option maxHeartbeats 16000000 in
theorem ratios_at (qs : List Rat) (ts : List Y3) (a : Option Addr) (c : Nat) (w : World) (hs : XsQ w qs ts a c) (hf : ∀ q ∈ qs, Fits q ∧ Sm q) (hl : qs.length ≤ 3) : Calls Tryz.prog 63 #[.slice a qs.length c] w (RatsPost w qs) := by
 have HS := Lib.hid hs
 have HF := Lib.hid hf
 have HI := Lib.hid rt_info
 clear hs hf
 go_enter Tryz.func63, Tryz.ntmps63
 have HW : Hid (Below w.heap.size w w) := Lib.hid (Below.refl _ _)
 have HRO : Hid (RO w w (.slice none 0 0) 0 qs) := Lib.hid ⟨Below.refl _ _, World.ownsRow_nil _ _ _ _⟩
 clear HW
 go_wp2
 go_loopw [4, 8, 11] (fun s _ i wr => ∃ k : Nat, k ≤ qs.length ∧ i = .int .i64 (k : Int) ∧ Hid (RO w wr s k qs)) (fun _ _ i _ => qs.length - (intOf i).toNat)
 case atStart => exact ⟨0, by omega, rfl, HRO⟩
 case round =>
  clear HRO
  obtain ⟨k, hk, rfl, HRO⟩ := hrel
  generalize hX : wr = X at *
  clear hX
  have HW := Lib.hid HRO.out.low
  by_cases hlt : k < qs.length
  ·have HGK := Lib.hid (List.getElem?_eq_getElem hlt)
   have hfk := HF.out _ (List.getElem_mem hlt)
   generalize qs[k] = qk at HGK hfk
   have hltT : k < ts.length := by rw [HS.out.len]; exact hlt
   have htk := List.getElem?_eq_getElem hltT
   generalize ts[k] = tk at htk
   obtain ⟨pb, po, hp9, hcs⟩ := (HS.out.sl.ext HW.out).elem (f := y3L) (fun _ => rfl) (by omega : 0 < 3) htk
   subst hp9
   have e0 : X.cell? ⟨pb, po + k * 3, none⟩ = some (.bool tk.b) := hcs 0 _ rfl
   have e1 : X.cell? ⟨pb, po + k * 3 + 1, none⟩ = some (.slice tk.a1 tk.n1 tk.c1) := hcs 1 _ rfl
   have e2 : X.cell? ⟨pb, po + k * 3 + 2, none⟩ = some (.slice tk.a2 tk.n2 tk.c2) := hcs 2 _ rfl
   have HFK := Lib.hid hfk
   have hk0 : (0 : Int) ≤ (k : Int) := Int.natCast_nonneg _
   have hk1 : (k : Int) < (qs.length : Int) := by omega
   have hk3 : (k : Int).toNat = k := by omega
   have HXK : Hid (XR X (y3V tk) qk) := Lib.hid ((HS.out.ok k tk qk htk HGK.out).ext HW.out)
   clear hcs hfk htk hltT
   go_upto_region 5 with (fail)
   refine wp_rows1 fun w1' hbz hR0 => ?_
   have le_x : w.heap.size ≤ X.heap.size := HW.out.size
   replace HXK := Lib.hid (HXK.out.ext hbz)
   replace HRO := Lib.hid (HRO.out.ext hbz)
   replace HW := Lib.hid (ext_trans HW.out hbz)
   clear e0 e1 e2
   clear hbz
   have HR_x : Hid (RH w1' X.heap.size #[.bool tk.b, .slice tk.a1 tk.n1 tk.c1, .slice tk.a2 tk.n2 tk.c2] 52) := Lib.hid hR0
   clear hR0
   generalize X.heap.size = b_x at *
   obtain ⟨c_x_0, c_x_1, c_x_2⟩ := zs3 HR_x.out
   go_wp2_with fail
   refine (ratio_at qk _ w1' HXK.out (by have := HFK.out.2.1; omega) (by have := HFK.out.2.2; omega)).mono ?_
   rintro e w2' ⟨rfl, hbz⟩
   rw [(out_fits HFK.out.1).1, (out_fits HFK.out.1).2.1, (out_fits HFK.out.1).2.2]
   replace HR_x := Lib.hid (HR_x.out.ext hbz)
   replace HXK := Lib.hid (HXK.out.ext hbz)
   replace HRO := Lib.hid (HRO.out.ext hbz)
   replace HW := Lib.hid (ext_trans HW.out hbz)
   clear c_x_0 c_x_1 c_x_2
   clear hbz
   go_upto_region 6 with (fail)
   refine wp_rows1 fun w3' hbz hR0 => ?_
   have lt_x_r : b_x < w2'.heap.size := HR_x.out.lt
   have le_r : w.heap.size ≤ w2'.heap.size := HW.out.size
   replace HR_x := Lib.hid (HR_x.out.ext hbz)
   replace HXK := Lib.hid (HXK.out.ext hbz)
   replace HRO := Lib.hid (HRO.out.ext hbz)
   replace HW := Lib.hid (ext_trans HW.out hbz)
   clear hbz
   have HR_r : Hid (RH w3' w2'.heap.size #[.string (showN qk), .string (showD qk)] 24) := Lib.hid hR0
   clear hR0
   generalize w2'.heap.size = b_r at *
   obtain ⟨c_r_0, c_r_1⟩ := zs2 HR_r.out
   have HRA := Lib.hid (HRO.out.ext (ext_alloc w3' (.cells #[.string (showN qk), .string (showD qk)] 24)))
   have hk2 : k + 1 ≤ maxLen := by unfold maxLen; omega
   go_wp2_with (at_builtin; refine wpList_append_sl rfl _ _ 94 rfl w.heap.size 24 Tryz.underlying94 HI.out rfl (by decide) rfl HRA.out.own rfl (Sl.new w3' #[.string (showN qk), .string (showD qk)] _ 1 1 (by omega) (by decide)) rfl (by intro u hu; simp at hu; rcases hu with rfl | rfl <;> rfl) hk2 (by omega) HRA.out.low.size ?_; intro v7 w7 hown7 hg7 _; have HX7 := Lib.hid (HRA.out.push HGK.out hown7 hg7); clear hown7 hg7)
   go_roundw
   case rel => exact ⟨k + 1, by omega, by go_num, HX7⟩
   case measure => simp [intOf]; omega
  ·obtain rfl : k = qs.length := by omega
   have HO := Lib.hid (Sl.ofOwn HRO.out.own)
   rw [List.take_length] at HO
   obtain ⟨a9, c9, hv9, _⟩ := id HO.out
   subst hv9
   go_wp2
   exact bodyPost_ret (v := .tuple #[.slice a9 qs.length c9, .int .i64 0]) (by simp [results, Tryz.results63, go_sem]) rfl ⟨a9, c9, rfl, HO.out, HW.out⟩
set_option maxRecDepth 100000 in
set_option maxHeartbeats 16000000 in
theorem spread_at (n : Int) (h0 : 1 ≤ n) (h1 : n ≤ 20000) (t : Y5) (q : Q5) (w : World) (hx : SX w t q) (hq : QL q) : Calls Tryz.prog 31 #[.agg (smA n t)] w (Sp3Post w n q) := by
 have HX0 := Lib.hid hx
 have HQL := Lib.hid hq
 have HNB := Lib.hid (And.intro h0 h1)
 have hnb0 := h0
 have hnb1 := h1
 clear hx hq h0 h1
 obtain ⟨nq, hnq⟩ : ∃ z : Rat, ((n : Int) : Rat) = z := ⟨_, rfl⟩
 have HNL : Hid (Ln 5 0 nq ∧ nq ≠ 0) := Lib.hid (by rw [← hnq]; exact ⟨ln_n (by omega) hnb1, n_ne hnb0⟩)
 have HDA := Lib.hid (sp_ln hnb0 hnb1 HQL.out.xx HQL.out.x HQL.out.x)
 obtain ⟨rA, hrA⟩ : ∃ z : Rat, q.x * q.x = z := ⟨_, rfl⟩
 obtain ⟨lA, hlA⟩ : ∃ z : Rat, rA / nq = z := ⟨_, rfl⟩
 obtain ⟨dA, hdA⟩ : ∃ z : Rat, q.xx - lA = z := ⟨_, rfl⟩
 have HDA' : Hid (Sm rA ∧ Sm lA) := Lib.hid (by
  obtain ⟨e1, e2, _⟩ := HDA.out
  rw [hrA] at e1 e2
  rw [hnq, hlA] at e2
  exact ⟨e1.sm (by omega) (by omega), e2.sm (by omega) (by omega)⟩)
 have HEA := Lib.hid (And.intro hrA (And.intro hlA hdA))
 have HDB := Lib.hid (sp_ln hnb0 hnb1 HQL.out.yy HQL.out.y HQL.out.y)
 obtain ⟨rB, hrB⟩ : ∃ z : Rat, q.y * q.y = z := ⟨_, rfl⟩
 obtain ⟨lB, hlB⟩ : ∃ z : Rat, rB / nq = z := ⟨_, rfl⟩
 obtain ⟨dB, hdB⟩ : ∃ z : Rat, q.yy - lB = z := ⟨_, rfl⟩
 have HDB' : Hid (Sm rB ∧ Sm lB) := Lib.hid (by
  obtain ⟨e1, e2, _⟩ := HDB.out
  rw [hrB] at e1 e2
  rw [hnq, hlB] at e2
  exact ⟨e1.sm (by omega) (by omega), e2.sm (by omega) (by omega)⟩)
 have HEB := Lib.hid (And.intro hrB (And.intro hlB hdB))
 have HDC := Lib.hid (sp_ln hnb0 hnb1 HQL.out.xy HQL.out.x HQL.out.y)
 obtain ⟨rC, hrC⟩ : ∃ z : Rat, q.x * q.y = z := ⟨_, rfl⟩
 obtain ⟨lC, hlC⟩ : ∃ z : Rat, rC / nq = z := ⟨_, rfl⟩
 obtain ⟨dC, hdC⟩ : ∃ z : Rat, q.xy - lC = z := ⟨_, rfl⟩
 have HDC' : Hid (Sm rC ∧ Sm lC) := Lib.hid (by
  obtain ⟨e1, e2, _⟩ := HDC.out
  rw [hrC] at e1 e2
  rw [hnq, hlC] at e2
  exact ⟨e1.sm (by omega) (by omega), e2.sm (by omega) (by omega)⟩)
 have HEC := Lib.hid (And.intro hrC (And.intro hlC hdC))
 have HDD : Hid (spA n q = dA ∧ spB n q = dB ∧ spC n q = dC) := Lib.hid (by unfold spA spB spC; rw [hnq, hrA, hlA, hdA, hrB, hlB, hdB, hrC, hlC, hdC]; exact ⟨rfl, rfl, rfl⟩)
 have HNQ := Lib.hid hnq
 clear HDA HDB HDC hnq hlA hrA hdA hlB hrB hdB hlC hrC hdC
 go_enter Tryz.func31, Tryz.ntmps31
 go_upto_region 1 with (fail)
 refine wp_rows4 fun w1' hbz hR0 hR1 hR2 hR3 => ?_
 have HR_s : Hid (RH w1' w.heap.size (smA (n) t) 59) := Lib.hid hR0
 have HR_oa : Hid (RH w1' (w.heap.size + 1) #[.bool false, .slice none 0 0, .slice none 0 0] 52) := Lib.hid hR1
 have HR_ob : Hid (RH w1' (w.heap.size + 2) #[.bool false, .slice none 0 0, .slice none 0 0] 52) := Lib.hid hR2
 have HR_oc : Hid (RH w1' (w.heap.size + 3) #[.bool false, .slice none 0 0, .slice none 0 0] 52) := Lib.hid hR3
 have HW := Lib.hid hbz
 clear hbz hR0 hR1 hR2 hR3
 have HX : Hid (SX w1' t q) := Lib.hid (HX0.out.ext HW.out)
 clear HX0
 obtain ⟨c_s_0, -, -, -, -, -, -, -, -, -, -, -, -, -, -, -⟩ := zs16 HR_s.out
 go_wp2_with fail
 refine (mwhole_is n nq HNQ.out (by omega) (by omega) w1').mono ?_
 rintro e w2' ⟨v1, rfl, hv1, hbz⟩
 obtain ⟨tn, rfl, hx1⟩ := hv1.y3
 clear hv1
 replace HR_s := Lib.hid (HR_s.out.ext hbz)
 replace HR_oa := Lib.hid (HR_oa.out.ext hbz)
 replace HR_ob := Lib.hid (HR_ob.out.ext hbz)
 replace HR_oc := Lib.hid (HR_oc.out.ext hbz)
 replace HX := Lib.hid (HX.out.ext hbz)
 replace HW := Lib.hid (ext_trans HW.out hbz)
 clear c_s_0
 clear hbz
 have HXn : Hid (XR w2' (y3V tn) nq) := Lib.hid hx1
 clear hx1
 go_upto_region 2 with (fail)
 refine wp_rows1 fun w3' hbz hR0 => ?_
 have lt_s_n : w.heap.size < w2'.heap.size := HR_s.out.lt
 have lt_oa_n : (w.heap.size + 1) < w2'.heap.size := HR_oa.out.lt
 have lt_ob_n : (w.heap.size + 2) < w2'.heap.size := HR_ob.out.lt
 have lt_oc_n : (w.heap.size + 3) < w2'.heap.size := HR_oc.out.lt
 have le_n : w.heap.size ≤ w2'.heap.size := HW.out.size
 replace HR_s := Lib.hid (HR_s.out.ext hbz)
 replace HR_oa := Lib.hid (HR_oa.out.ext hbz)
 replace HR_ob := Lib.hid (HR_ob.out.ext hbz)
 replace HR_oc := Lib.hid (HR_oc.out.ext hbz)
 replace HX := Lib.hid (HX.out.ext hbz)
 replace HXn := Lib.hid (HXn.out.ext hbz)
 replace HW := Lib.hid (ext_trans HW.out hbz)
 clear hbz
 have HR_n : Hid (RH w3' w2'.heap.size #[.bool tn.b, .slice tn.a1 tn.n1 tn.c1, .slice tn.a2 tn.n2 tn.c2] 52) := Lib.hid hR0
 clear hR0
 generalize w2'.heap.size = b_n at *
 obtain ⟨c_s_0, c_s_1, c_s_2, c_s_3, c_s_4, c_s_5, c_s_6, c_s_7, c_s_8, c_s_9, c_s_10, c_s_11, c_s_12, c_s_13, c_s_14, c_s_15⟩ := zs16 HR_s.out
 obtain ⟨c_n_0, c_n_1, c_n_2⟩ := zs3 HR_n.out
 refine Grow.wp_region_grow 30 [TP.eq (.pointer (some ⟨w.heap.size, 7, none⟩)), TP.eq (.agg #[.bool t.xx.b, .slice t.xx.a1 t.xx.n1 t.xx.c1, .slice t.xx.a2 t.xx.n2 t.xx.c2]), TP.eq (.pointer (some ⟨w.heap.size, 1, none⟩)), TP.eq (.agg #[.bool t.x.b, .slice t.x.a1 t.x.n1 t.x.c1, .slice t.x.a2 t.x.n2 t.x.c2]), TP.eq (.pointer (some ⟨w.heap.size, 1, none⟩)), TP.eq (.agg #[.bool t.x.b, .slice t.x.a1 t.x.n1 t.x.c1, .slice t.x.a2 t.x.n2 t.x.c2]), TP.xq rA, TP.eq (.agg #[.bool tn.b, .slice tn.a1 tn.n1 tn.c1, .slice tn.a2 tn.n2 tn.c2]), TP.xq lA, TP.xq dA, TP.eq (.pointer (some ⟨w.heap.size, 10, none⟩)), TP.eq (.agg #[.bool t.yy.b, .slice t.yy.a1 t.yy.n1 t.yy.c1, .slice t.yy.a2 t.yy.n2 t.yy.c2]), TP.eq (.pointer (some ⟨w.heap.size, 4, none⟩)), TP.eq (.agg #[.bool t.y.b, .slice t.y.a1 t.y.n1 t.y.c1, .slice t.y.a2 t.y.n2 t.y.c2]), TP.eq (.pointer (some ⟨w.heap.size, 4, none⟩)), TP.eq (.agg #[.bool t.y.b, .slice t.y.a1 t.y.n1 t.y.c1, .slice t.y.a2 t.y.n2 t.y.c2]), TP.xq rB, TP.eq (.agg #[.bool tn.b, .slice tn.a1 tn.n1 tn.c1, .slice tn.a2 tn.n2 tn.c2]), TP.xq lB, TP.xq dB, TP.eq (.pointer (some ⟨w.heap.size, 13, none⟩)), TP.eq (.agg #[.bool t.xy.b, .slice t.xy.a1 t.xy.n1 t.xy.c1, .slice t.xy.a2 t.xy.n2 t.xy.c2]), TP.eq (.pointer (some ⟨w.heap.size, 1, none⟩)), TP.eq (.agg #[.bool t.x.b, .slice t.x.a1 t.x.n1 t.x.c1, .slice t.x.a2 t.x.n2 t.x.c2]), TP.eq (.pointer (some ⟨w.heap.size, 4, none⟩)), TP.eq (.agg #[.bool t.y.b, .slice t.y.a1 t.y.n1 t.y.c1, .slice t.y.a2 t.y.n2 t.y.c2]), TP.xq rC, TP.eq (.agg #[.bool tn.b, .slice tn.a1 tn.n1 tn.c1, .slice tn.a2 tn.n2 tn.c2]), TP.xq lC, TP.xq dC] [[], [0], [], [2], [], [4], [3, 5], [], [6, 7], [1, 8], [], [10], [], [12], [], [14], [13, 15], [], [16, 17], [11, 18], [], [20], [], [22], [], [24], [23, 25], [], [26, 27], [21, 28]] (by kernel_rfl) (by kernel_rfl) ⟨?o0s, ?o1s, ?o2s, ?o3s, ?o4s, ?o5s, ?o6s, ?o7s, ?o8s, ?o9s, ?o10s, ?o11s, ?o12s, ?o13s, ?o14s, ?o15s, ?o16s, ?o17s, ?o18s, ?o19s, ?o20s, ?o21s, ?o22s, ?o23s, ?o24s, ?o25s, ?o26s, ?o27s, ?o28s, ?o29s, trivial⟩ ?_
 case o0s | o2s | o4s | o10s | o12s | o14s | o20s | o22s | o24s =>
  intro w' hb
  show wpList _ _ _ _ _ _
  go_wp2
  exact ⟨rfl, Below.refl _ _, rfl⟩
 case o1s =>
  intro w' hb v1 hv1
  cases hv1
  have c_s_7' := zzc hb c_s_7
  have c_s_8' := zzc hb c_s_8
  have c_s_9' := zzc hb c_s_9
  show wpList _ _ _ _ _ _
  simp only [Grow.dstOf, zzp, Act.put]
  go_wp2
  exact ⟨rfl, Below.refl _ _, rfl⟩
 case o3s | o5s | o11s | o13s | o15s | o21s | o23s | o25s =>
  intro w' hb v1 hv1
  cases hv1
  have c_s_1' := zzc hb c_s_1
  have c_s_2' := zzc hb c_s_2
  have c_s_3' := zzc hb c_s_3
  have c_s_10' := zzc hb c_s_10
  have c_s_11' := zzc hb c_s_11
  have c_s_12' := zzc hb c_s_12
  have c_s_4' := zzc hb c_s_4
  have c_s_5' := zzc hb c_s_5
  have c_s_6' := zzc hb c_s_6
  have c_s_13' := zzc hb c_s_13
  have c_s_14' := zzc hb c_s_14
  have c_s_15' := zzc hb c_s_15
  show wpList _ _ _ _ _ _
  simp only [Grow.dstOf, zzp, Act.put]
  go_wp2
  exact ⟨rfl, Below.refl _ _, rfl⟩
 case o6s =>
  intro w' hb v1 hv1 v2 hv2
  cases hv1
  cases hv2
  show wpList _ _ _ _ _ _
  simp only [Grow.dstOf, zzp, Act.put]
  go_wp2_with fail
  refine (xtimes_sm q.x q.x rA HEA.out.1 _ _ w' (HX.out.x.ext hb) (HX.out.x.ext hb) HQL.out.qs.x HQL.out.qs.x).mono ?_
  rintro e wz ⟨vz, rfl, hxz, hbz⟩
  go_wp2
  exact ⟨hxz, hbz, rfl⟩
 case o7s | o17s | o27s =>
  intro w' hb
  have c_n_0' := zzc hb c_n_0
  have c_n_1' := zzc hb c_n_1
  have c_n_2' := zzc hb c_n_2
  show wpList _ _ _ _ _ _
  go_wp2
  exact ⟨rfl, Below.refl _ _, rfl⟩
 case o8s =>
  intro w' hb v1 hv1 v2 hv2
  cases hv2
  have hv1' : XR w' v1 rA := hv1
  clear hv1
  show wpList _ _ _ _ _ _
  simp only [Grow.dstOf, zzp, Act.put]
  go_wp2_with fail
  refine (mover_is rA nq lA HEA.out.2.1 HNL.out.2 _ _ w' hv1' (HXn.out.ext hb) HDA'.out.1 (HNL.out.1.sm (by omega) (by omega))).mono ?_
  rintro e wz ⟨vz, rfl, hxz, hbz⟩
  go_wp2
  exact ⟨hxz, hbz, rfl⟩
 case o9s =>
  intro w' hb v1 hv1 v2 hv2
  cases hv1
  have hv2' : XR w' v2 lA := hv2
  clear hv2
  show wpList _ _ _ _ _ _
  simp only [Grow.dstOf, zzp, Act.put]
  go_wp2_with fail
  refine (mminus_is q.xx lA dA HEA.out.2.2 _ _ w' (HX.out.xx.ext hb) hv2' HQL.out.qs.xx HDA'.out.2).mono ?_
  rintro e wz ⟨vz, rfl, hxz, hbz⟩
  go_wp2
  exact ⟨hxz, hbz, rfl⟩
 case o16s =>
  intro w' hb v1 hv1 v2 hv2
  cases hv1
  cases hv2
  show wpList _ _ _ _ _ _
  simp only [Grow.dstOf, zzp, Act.put]
  go_wp2_with fail
  refine (xtimes_sm q.y q.y rB HEB.out.1 _ _ w' (HX.out.y.ext hb) (HX.out.y.ext hb) HQL.out.qs.y HQL.out.qs.y).mono ?_
  rintro e wz ⟨vz, rfl, hxz, hbz⟩
  go_wp2
  exact ⟨hxz, hbz, rfl⟩
 case o18s =>
  intro w' hb v1 hv1 v2 hv2
  cases hv2
  have hv1' : XR w' v1 rB := hv1
  clear hv1
  show wpList _ _ _ _ _ _
  simp only [Grow.dstOf, zzp, Act.put]
  go_wp2_with fail
  refine (mover_is rB nq lB HEB.out.2.1 HNL.out.2 _ _ w' hv1' (HXn.out.ext hb) HDB'.out.1 (HNL.out.1.sm (by omega) (by omega))).mono ?_
  rintro e wz ⟨vz, rfl, hxz, hbz⟩
  go_wp2
  exact ⟨hxz, hbz, rfl⟩
 case o19s =>
  intro w' hb v1 hv1 v2 hv2
  cases hv1
  have hv2' : XR w' v2 lB := hv2
  clear hv2
  show wpList _ _ _ _ _ _
  simp only [Grow.dstOf, zzp, Act.put]
  go_wp2_with fail
  refine (mminus_is q.yy lB dB HEB.out.2.2 _ _ w' (HX.out.yy.ext hb) hv2' HQL.out.qs.yy HDB'.out.2).mono ?_
  rintro e wz ⟨vz, rfl, hxz, hbz⟩
  go_wp2
  exact ⟨hxz, hbz, rfl⟩
 case o26s =>
  intro w' hb v1 hv1 v2 hv2
  cases hv1
  cases hv2
  show wpList _ _ _ _ _ _
  simp only [Grow.dstOf, zzp, Act.put]
  go_wp2_with fail
  refine (xtimes_sm q.x q.y rC HEC.out.1 _ _ w' (HX.out.x.ext hb) (HX.out.y.ext hb) HQL.out.qs.x HQL.out.qs.y).mono ?_
  rintro e wz ⟨vz, rfl, hxz, hbz⟩
  go_wp2
  exact ⟨hxz, hbz, rfl⟩
 case o28s =>
  intro w' hb v1 hv1 v2 hv2
  cases hv2
  have hv1' : XR w' v1 rC := hv1
  clear hv1
  show wpList _ _ _ _ _ _
  simp only [Grow.dstOf, zzp, Act.put]
  go_wp2_with fail
  refine (mover_is rC nq lC HEC.out.2.1 HNL.out.2 _ _ w' hv1' (HXn.out.ext hb) HDC'.out.1 (HNL.out.1.sm (by omega) (by omega))).mono ?_
  rintro e wz ⟨vz, rfl, hxz, hbz⟩
  go_wp2
  exact ⟨hxz, hbz, rfl⟩
 case o29s =>
  intro w' hb v1 hv1 v2 hv2
  cases hv1
  have hv2' : XR w' v2 lC := hv2
  clear hv2
  show wpList _ _ _ _ _ _
  simp only [Grow.dstOf, zzp, Act.put]
  go_wp2_with fail
  refine (mminus_is q.xy lC dC HEC.out.2.2 _ _ w' (HX.out.xy.ext hb) hv2' HQL.out.qs.xy HDC'.out.2).mono ?_
  rintro e wz ⟨vz, rfl, hxz, hbz⟩
  go_wp2
  exact ⟨hxz, hbz, rfl⟩
 intro w4' hbz u0 hu0 u1 hu1 u2 hu2 u3 hu3 u4 hu4 u5 hu5 u6 hu6 u7 hu7 u8 hu8 u9 hu9 u10 hu10 u11 hu11 u12 hu12 u13 hu13 u14 hu14 u15 hu15 u16 hu16 u17 hu17 u18 hu18 u19 hu19 u20 hu20 u21 hu21 u22 hu22 u23 hu23 u24 hu24 u25 hu25 u26 hu26 u27 hu27 u28 hu28 u29 hu29
 clear hu0 hu1 hu2 hu3 hu4 hu5 hu6 hu7 hu8 hu10 hu11 hu12 hu13 hu14 hu15 hu16 hu17 hu18 hu20 hu21 hu22 hu23 hu24 hu25 hu26 hu27 hu28
 replace HR_s := Lib.hid (HR_s.out.ext hbz)
 replace HR_oa := Lib.hid (HR_oa.out.ext hbz)
 replace HR_ob := Lib.hid (HR_ob.out.ext hbz)
 replace HR_oc := Lib.hid (HR_oc.out.ext hbz)
 replace HR_n := Lib.hid (HR_n.out.ext hbz)
 replace HX := Lib.hid (HX.out.ext hbz)
 replace HXn := Lib.hid (HXn.out.ext hbz)
 replace HW := Lib.hid (ext_trans HW.out hbz)
 clear c_s_0 c_s_1 c_s_2 c_s_3 c_s_4 c_s_5 c_s_6 c_s_7 c_s_8 c_s_9 c_s_10 c_s_11 c_s_12 c_s_13 c_s_14 c_s_15 c_n_0 c_n_1 c_n_2
 clear hbz
 have h1 : XR w4' u9 dA := hu9
 clear hu9
 obtain ⟨t1, rfl, hx1⟩ := h1.y3
 clear h1
 have HX1 : Hid (XR w4' (y3V t1) dA) := Lib.hid (hx1)
 clear hx1
 have h2 : XR w4' u19 dB := hu19
 clear hu19
 obtain ⟨t2, rfl, hx2⟩ := h2.y3
 clear h2
 have HX2 : Hid (XR w4' (y3V t2) dB) := Lib.hid (hx2)
 clear hx2
 have h3 : XR w4' u29 dC := hu29
 clear hu29
 obtain ⟨t3, rfl, hx3⟩ := h3.y3
 clear h3
 have HX3 : Hid (XR w4' (y3V t3) dC) := Lib.hid (hx3)
 clear hx3
 show wpList _ _ _ _ _ _
 simp only [Act.put, zzp]
 clear HX
 clear HXn
 obtain ⟨c_oa_0, c_oa_1, c_oa_2⟩ := zs3 HR_oa.out
 have f_oa_0 := HR_oa.out.fre 0
 have f_oa_1 := HR_oa.out.fre 1
 have f_oa_2 := HR_oa.out.fre 2
 obtain ⟨c_ob_0, c_ob_1, c_ob_2⟩ := zs3 HR_ob.out
 have f_ob_0 := HR_ob.out.fre 0
 have f_ob_1 := HR_ob.out.fre 1
 have f_ob_2 := HR_ob.out.fre 2
 obtain ⟨c_oc_0, c_oc_1, c_oc_2⟩ := zs3 HR_oc.out
 have f_oc_0 := HR_oc.out.fre 0
 have f_oc_1 := HR_oc.out.fre 1
 have f_oc_2 := HR_oc.out.fre 2
 go_wp2
 obtain ⟨w5', hX⟩ : ∃ Z9, Z9 = (((w4'.setCell ⟨(w.heap.size + 1), 0, none⟩ (.bool t1.b)).setCell ⟨(w.heap.size + 1), 1, none⟩ (.slice t1.a1 t1.n1 t1.c1)).setCell ⟨(w.heap.size + 1), 2, none⟩ (.slice t1.a2 t1.n2 t1.c2)) := ⟨_, rfl⟩
 rw [← hX]
 have n_oa : Hid (RH w5' (w.heap.size + 1) #[.bool t1.b, .slice t1.a1 t1.n1 t1.c1, .slice t1.a2 t1.n2 t1.c2] 52) := by rw [hX]; exact Lib.hid ((((HR_oa.out).set 0 (.bool t1.b)).set 1 (.slice t1.a1 t1.n1 t1.c1)).set 2 (.slice t1.a2 t1.n2 t1.c2))
 have n_s : Hid (RH w5' w.heap.size (smA (n) t) 59) := by rw [hX]; exact Lib.hid (zzo (zzo (zzo (HR_s.out) (by omega)) (by omega)) (by omega))
 have n_ob : Hid (RH w5' (w.heap.size + 2) #[.bool false, .slice none 0 0, .slice none 0 0] 52) := by rw [hX]; exact Lib.hid (zzo (zzo (zzo (HR_ob.out) (by omega)) (by omega)) (by omega))
 have n_oc : Hid (RH w5' (w.heap.size + 3) #[.bool false, .slice none 0 0, .slice none 0 0] 52) := by rw [hX]; exact Lib.hid (zzo (zzo (zzo (HR_oc.out) (by omega)) (by omega)) (by omega))
 have n_n : Hid (RH w5' b_n #[.bool tn.b, .slice tn.a1 tn.n1 tn.c1, .slice tn.a2 tn.n2 tn.c2] 52) := by rw [hX]; exact Lib.hid (zzo (zzo (zzo (HR_n.out) (by omega)) (by omega)) (by omega))
 have HK_ : ∀ p : Addr, p.block ≠ (w.heap.size + 1) → w5'.cell? p = w4'.cell? p := fun p hp => by rw [hX]; exact (cs_other hp).trans ((cs_other hp).trans (cs_other hp))
 have n_HX1 : Hid (XR w5' (y3V t1) dA) := Lib.hid (HX1.out.far HR_oa.out.box (noW_all (by simp [isWord])) HK_)
 have n_HX2 : Hid (XR w5' (y3V t2) dB) := Lib.hid (HX2.out.far HR_oa.out.box (noW_all (by simp [isWord])) HK_)
 have n_HX3 : Hid (XR w5' (y3V t3) dC) := Lib.hid (HX3.out.far HR_oa.out.box (noW_all (by simp [isWord])) HK_)
 have nW : Hid (Below w.heap.size w w5') := by rw [hX]; exact Lib.hid (zzw (zzw (zzw (HW.out) (by omega)) (by omega)) (by omega))
 clear c_oa_0 c_oa_1 c_oa_2 f_oa_0 f_oa_1 f_oa_2 c_ob_0 c_ob_1 c_ob_2 f_ob_0 f_ob_1 f_ob_2 c_oc_0 c_oc_1 c_oc_2 f_oc_0 f_oc_1 f_oc_2
 clear hX HK_ HW HR_s HR_oa HR_ob HR_oc HR_n HX1 HX2 HX3
 have HR_s := n_s; clear n_s
 have HR_oa := n_oa; clear n_oa
 have HR_ob := n_ob; clear n_ob
 have HR_oc := n_oc; clear n_oc
 have HR_n := n_n; clear n_n
 have HX1 := n_HX1; clear n_HX1
 have HX2 := n_HX2; clear n_HX2
 have HX3 := n_HX3; clear n_HX3
 have HW := nW; clear nW
 obtain ⟨w6', hX⟩ : ∃ Z9, Z9 = (((w5'.setCell ⟨(w.heap.size + 2), 0, none⟩ (.bool t2.b)).setCell ⟨(w.heap.size + 2), 1, none⟩ (.slice t2.a1 t2.n1 t2.c1)).setCell ⟨(w.heap.size + 2), 2, none⟩ (.slice t2.a2 t2.n2 t2.c2)) := ⟨_, rfl⟩
 rw [← hX]
 have n_ob : Hid (RH w6' (w.heap.size + 2) #[.bool t2.b, .slice t2.a1 t2.n1 t2.c1, .slice t2.a2 t2.n2 t2.c2] 52) := by rw [hX]; exact Lib.hid ((((HR_ob.out).set 0 (.bool t2.b)).set 1 (.slice t2.a1 t2.n1 t2.c1)).set 2 (.slice t2.a2 t2.n2 t2.c2))
 have n_s : Hid (RH w6' w.heap.size (smA (n) t) 59) := by rw [hX]; exact Lib.hid (zzo (zzo (zzo (HR_s.out) (by omega)) (by omega)) (by omega))
 have n_oa : Hid (RH w6' (w.heap.size + 1) #[.bool t1.b, .slice t1.a1 t1.n1 t1.c1, .slice t1.a2 t1.n2 t1.c2] 52) := by rw [hX]; exact Lib.hid (zzo (zzo (zzo (HR_oa.out) (by omega)) (by omega)) (by omega))
 have n_oc : Hid (RH w6' (w.heap.size + 3) #[.bool false, .slice none 0 0, .slice none 0 0] 52) := by rw [hX]; exact Lib.hid (zzo (zzo (zzo (HR_oc.out) (by omega)) (by omega)) (by omega))
 have n_n : Hid (RH w6' b_n #[.bool tn.b, .slice tn.a1 tn.n1 tn.c1, .slice tn.a2 tn.n2 tn.c2] 52) := by rw [hX]; exact Lib.hid (zzo (zzo (zzo (HR_n.out) (by omega)) (by omega)) (by omega))
 have HK_ : ∀ p : Addr, p.block ≠ (w.heap.size + 2) → w6'.cell? p = w5'.cell? p := fun p hp => by rw [hX]; exact (cs_other hp).trans ((cs_other hp).trans (cs_other hp))
 have n_HX1 : Hid (XR w6' (y3V t1) dA) := Lib.hid (HX1.out.far HR_ob.out.box (noW_all (by simp [isWord])) HK_)
 have n_HX2 : Hid (XR w6' (y3V t2) dB) := Lib.hid (HX2.out.far HR_ob.out.box (noW_all (by simp [isWord])) HK_)
 have n_HX3 : Hid (XR w6' (y3V t3) dC) := Lib.hid (HX3.out.far HR_ob.out.box (noW_all (by simp [isWord])) HK_)
 have nW : Hid (Below w.heap.size w w6') := by rw [hX]; exact Lib.hid (zzw (zzw (zzw (HW.out) (by omega)) (by omega)) (by omega))
 clear hX HK_ HW HR_s HR_oa HR_ob HR_oc HR_n HX1 HX2 HX3
 have HR_s := n_s; clear n_s
 have HR_oa := n_oa; clear n_oa
 have HR_ob := n_ob; clear n_ob
 have HR_oc := n_oc; clear n_oc
 have HR_n := n_n; clear n_n
 have HX1 := n_HX1; clear n_HX1
 have HX2 := n_HX2; clear n_HX2
 have HX3 := n_HX3; clear n_HX3
 have HW := nW; clear nW
 obtain ⟨w7', hX⟩ : ∃ Z9, Z9 = (((w6'.setCell ⟨(w.heap.size + 3), 0, none⟩ (.bool t3.b)).setCell ⟨(w.heap.size + 3), 1, none⟩ (.slice t3.a1 t3.n1 t3.c1)).setCell ⟨(w.heap.size + 3), 2, none⟩ (.slice t3.a2 t3.n2 t3.c2)) := ⟨_, rfl⟩
 rw [← hX]
 have n_oc : Hid (RH w7' (w.heap.size + 3) #[.bool t3.b, .slice t3.a1 t3.n1 t3.c1, .slice t3.a2 t3.n2 t3.c2] 52) := by rw [hX]; exact Lib.hid ((((HR_oc.out).set 0 (.bool t3.b)).set 1 (.slice t3.a1 t3.n1 t3.c1)).set 2 (.slice t3.a2 t3.n2 t3.c2))
 have n_s : Hid (RH w7' w.heap.size (smA (n) t) 59) := by rw [hX]; exact Lib.hid (zzo (zzo (zzo (HR_s.out) (by omega)) (by omega)) (by omega))
 have n_oa : Hid (RH w7' (w.heap.size + 1) #[.bool t1.b, .slice t1.a1 t1.n1 t1.c1, .slice t1.a2 t1.n2 t1.c2] 52) := by rw [hX]; exact Lib.hid (zzo (zzo (zzo (HR_oa.out) (by omega)) (by omega)) (by omega))
 have n_ob : Hid (RH w7' (w.heap.size + 2) #[.bool t2.b, .slice t2.a1 t2.n1 t2.c1, .slice t2.a2 t2.n2 t2.c2] 52) := by rw [hX]; exact Lib.hid (zzo (zzo (zzo (HR_ob.out) (by omega)) (by omega)) (by omega))
 have n_n : Hid (RH w7' b_n #[.bool tn.b, .slice tn.a1 tn.n1 tn.c1, .slice tn.a2 tn.n2 tn.c2] 52) := by rw [hX]; exact Lib.hid (zzo (zzo (zzo (HR_n.out) (by omega)) (by omega)) (by omega))
 have HK_ : ∀ p : Addr, p.block ≠ (w.heap.size + 3) → w7'.cell? p = w6'.cell? p := fun p hp => by rw [hX]; exact (cs_other hp).trans ((cs_other hp).trans (cs_other hp))
 have n_HX1 : Hid (XR w7' (y3V t1) dA) := Lib.hid (HX1.out.far HR_oc.out.box (noW_all (by simp [isWord])) HK_)
 have n_HX2 : Hid (XR w7' (y3V t2) dB) := Lib.hid (HX2.out.far HR_oc.out.box (noW_all (by simp [isWord])) HK_)
 have n_HX3 : Hid (XR w7' (y3V t3) dC) := Lib.hid (HX3.out.far HR_oc.out.box (noW_all (by simp [isWord])) HK_)
 have nW : Hid (Below w.heap.size w w7') := by rw [hX]; exact Lib.hid (zzw (zzw (zzw (HW.out) (by omega)) (by omega)) (by omega))
 clear hX HK_ HW HR_s HR_oa HR_ob HR_oc HR_n HX1 HX2 HX3
 have HR_s := n_s; clear n_s
 have HR_oa := n_oa; clear n_oa
 have HR_ob := n_ob; clear n_ob
 have HR_oc := n_oc; clear n_oc
 have HR_n := n_n; clear n_n
 have HX1 := n_HX1; clear n_HX1
 have HX2 := n_HX2; clear n_HX2
 have HX3 := n_HX3; clear n_HX3
 have HW := nW; clear nW
 obtain ⟨c_oa_0, c_oa_1, c_oa_2⟩ := zs3 HR_oa.out
 obtain ⟨c_ob_0, c_ob_1, c_ob_2⟩ := zs3 HR_ob.out
 obtain ⟨c_oc_0, c_oc_1, c_oc_2⟩ := zs3 HR_oc.out
 exact bodyPost_ret (v := .tuple #[.agg #[.bool t1.b, .slice t1.a1 t1.n1 t1.c1, .slice t1.a2 t1.n2 t1.c2], .agg #[.bool t2.b, .slice t2.a1 t2.n1 t2.c1, .slice t2.a2 t2.n2 t2.c2], .agg #[.bool t3.b, .slice t3.a1 t3.n1 t3.c1, .slice t3.a2 t3.n2 t3.c2]]) (by simp [results, Tryz.results31, go_sem, c_oa_0, c_oa_1, c_oa_2, c_ob_0, c_ob_1, c_ob_2, c_oc_0, c_oc_1, c_oc_2]) rfl ⟨t1, t2, t3, rfl, by rw [HDD.out.1]; exact HX1.out, by rw [HDD.out.2.1]; exact HX2.out, by rw [HDD.out.2.2]; exact HX3.out, HW.out⟩
set_option maxRecDepth 100000 in
set_option maxHeartbeats 16000000 in
theorem atLeast_at (k n : Int) (r : R5) (hok : r.ok) (w : World) : Calls Tryz.prog 38 #[.agg (mrA n r), .int .i64 k] w (RdPost w n r (atF k n r)) := by
 have HOK := Lib.hid hok
 clear hok
 go_enter Tryz.func38, Tryz.ntmps38
 go_upto_region 1 with (fail)
 refine wp_rows2 fun w1' hbz hR0 hR1 => ?_
 have HR_m : Hid (RH w1' w.heap.size (mrA (n) r) 35) := Lib.hid hR0
 have HR_o : Hid (RH w1' (w.heap.size + 1) (smA (0) y5z) 59) := Lib.hid hR1
 have HW := Lib.hid hbz
 clear hbz hR0 hR1
 go_wp2_with (first | (refine wpList_load_row rfl _ _ rfl w.heap.size rfl _ (mrA (n) r) _ _ HR_m.out Tryz.underlying35 rfl (mr_info _ _) ?_))
 refine (read_at n r HOK.out w1').mono ?_
 rintro e w2' ⟨k9, t9, rfl, hx9, hbz⟩
 replace HR_m := Lib.hid (HR_m.out.ext hbz)
 replace HR_o := Lib.hid (HR_o.out.ext hbz)
 replace HW := Lib.hid (ext_trans HW.out hbz)
 clear hbz
 have HRD : Hid (RdIf w2' (momF n r) n r k9 t9) := Lib.hid hx9
 clear hx9
 have hsz : (smA (k9) t9).size = 16 := rfl
 have hsc := run_storeCells_new (P := Tryz.prog) w2' 59 #[.int .i64 0, .bool false, .slice none 0 0, .slice none 0 0, .bool false, .slice none 0 0, .slice none 0 0, .bool false, .slice none 0 0, .slice none 0 0, .bool false, .slice none 0 0, .slice none 0 0, .bool false, .slice none 0 0, .slice none 0 0] (smA (k9) t9) (sm_info _ _) rfl (sm_all _ _)
 go_upto_region 2 with (fail)
 clear hsc hsz
 refine wp_rows1 fun w3' hbz hR0 => ?_
 have lt_m_s : w.heap.size < w2'.heap.size := HR_m.out.lt
 have lt_o_s : (w.heap.size + 1) < w2'.heap.size := HR_o.out.lt
 have le_s : w.heap.size ≤ w2'.heap.size := HW.out.size
 replace HR_m := Lib.hid (HR_m.out.ext hbz)
 replace HR_o := Lib.hid (HR_o.out.ext hbz)
 replace HRD := Lib.hid (HRD.out.ext hbz)
 replace HW := Lib.hid (ext_trans HW.out hbz)
 clear hbz
 have HR_s : Hid (RH w3' w2'.heap.size (smA (k9) t9) 59) := Lib.hid hR0
 clear hR0
 generalize w2'.heap.size = b_s at *
 by_cases hz : momF n r = 0
 ·have hq1 : (momF n r == 0) = true := beq_iff_eq.2 hz
  obtain ⟨hkn, _⟩ := HRD.out hz
  replace hkn := hkn.symm
  subst hkn
  have HP0 : Hid (atF k n r = if n < k then 9 else 0) := Lib.hid (by unfold atF; rw [if_neg (fun h => h hz)])
  have HZ := Lib.hid hz
  clear hz
  obtain ⟨c_s_0, -, -, -, -, -, -, -, -, -, -, -, -, -, -, -⟩ := zs16 HR_s.out
  by_cases hlt : n < k
  ·have HP : Hid (atF k n r = 9) := Lib.hid (by rw [HP0.out, if_pos hlt])
   have HNE : Hid ((9 : Int) ≠ 0) := Lib.hid (by decide)
   go_wp2_with (first | (refine wpList_load_row rfl _ _ rfl b_s rfl _ (smA (n) t9) _ _ HR_s.out Tryz.underlying59 rfl (sm_info _ _) ?_) | (refine wpList_store_row rfl _ _ _ rfl (w.heap.size + 1) (smA (n) t9) rfl rfl _ _ HR_o.out (sm_info _ _) rfl (sm_all _ _) ?_))
   obtain ⟨w4', hX⟩ : ∃ Z9, Z9 = w3'.setRow (w.heap.size + 1) (smA (n) t9) := ⟨_, rfl⟩
   rw [← hX]
   have n_o : Hid (RH w4' (w.heap.size + 1) (smA (n) t9) 59) := by rw [hX]; exact Lib.hid (HR_o.out.row _)
   have n_m : Hid (RH w4' w.heap.size (mrA (n) r) 35) := by rw [hX]; exact Lib.hid (HR_m.out.row_other (show w.heap.size ≠ (w.heap.size + 1) by omega) _)
   have n_s : Hid (RH w4' b_s (smA (n) t9) 59) := by rw [hX]; exact Lib.hid (HR_s.out.row_other (show b_s ≠ (w.heap.size + 1) by omega) _)
   have HK_ : ∀ p : Addr, p.block ≠ (w.heap.size + 1) → w4'.cell? p = w3'.cell? p := fun p hp => by rw [hX]; exact cell_setRow_other _ _ _ p hp
   have n_HRD : Hid (RdIf w4' (momF n r) n r n t9) := Lib.hid (HRD.out.far HR_o.out.box (sm_nw _ _) HK_)
   have nW : Hid (Below w.heap.size w w4') := by rw [hX]; exact Lib.hid (below_setRow HW.out (show w.heap.size ≤ (w.heap.size + 1) by omega) _)
   clear c_s_0
   clear hX HK_ HW HR_m HR_o HR_s HRD
   have HR_m := n_m; clear n_m
   have HR_o := n_o; clear n_o
   have HR_s := n_s; clear n_s
   have HRD := n_HRD; clear n_HRD
   have HW := nW; clear nW
   refine bodyPost_ret (v := .tuple #[.agg (smA (n) t9), .int .i64 9]) ?_ rfl ⟨n, t9, by rw [HP.out], (fun h => absurd (HP.out.symm.trans h) HNE.out), HW.out⟩
   have hld := run_loadVar_row (P := Tryz.prog) _ _ _ 59 _ _ _ HR_o.out Tryz.underlying59 rfl (sm_info _ _)
   rw [results_cell_tmp rfl]
   simp [asAddr, Result.andThen, hld]
  ·have HP : Hid (atF k n r = momF n r) := Lib.hid (by rw [HP0.out, if_neg hlt, HZ.out])
   go_wp2_with (first | (refine wpList_load_row rfl _ _ rfl b_s rfl _ (smA (n) t9) _ _ HR_s.out Tryz.underlying59 rfl (sm_info _ _) ?_) | (refine wpList_store_row rfl _ _ _ rfl (w.heap.size + 1) (smA (n) t9) rfl rfl _ _ HR_o.out (sm_info _ _) rfl (sm_all _ _) ?_))
   obtain ⟨w4', hX⟩ : ∃ Z9, Z9 = w3'.setRow (w.heap.size + 1) (smA (n) t9) := ⟨_, rfl⟩
   rw [← hX]
   have n_o : Hid (RH w4' (w.heap.size + 1) (smA (n) t9) 59) := by rw [hX]; exact Lib.hid (HR_o.out.row _)
   have n_m : Hid (RH w4' w.heap.size (mrA (n) r) 35) := by rw [hX]; exact Lib.hid (HR_m.out.row_other (show w.heap.size ≠ (w.heap.size + 1) by omega) _)
   have n_s : Hid (RH w4' b_s (smA (n) t9) 59) := by rw [hX]; exact Lib.hid (HR_s.out.row_other (show b_s ≠ (w.heap.size + 1) by omega) _)
   have HK_ : ∀ p : Addr, p.block ≠ (w.heap.size + 1) → w4'.cell? p = w3'.cell? p := fun p hp => by rw [hX]; exact cell_setRow_other _ _ _ p hp
   have n_HRD : Hid (RdIf w4' (momF n r) n r n t9) := Lib.hid (HRD.out.far HR_o.out.box (sm_nw _ _) HK_)
   have nW : Hid (Below w.heap.size w w4') := by rw [hX]; exact Lib.hid (below_setRow HW.out (show w.heap.size ≤ (w.heap.size + 1) by omega) _)
   clear c_s_0
   clear hX HK_ HW HR_m HR_o HR_s HRD
   have HR_m := n_m; clear n_m
   have HR_o := n_o; clear n_o
   have HR_s := n_s; clear n_s
   have HRD := n_HRD; clear n_HRD
   have HW := nW; clear nW
   refine bodyPost_ret (v := .tuple #[.agg (smA (n) t9), .int .i64 (momF n r)]) ?_ rfl ⟨n, t9, by rw [HP.out], (fun _ => HRD.out HZ.out), HW.out⟩
   have hld := run_loadVar_row (P := Tryz.prog) _ _ _ 59 _ _ _ HR_o.out Tryz.underlying59 rfl (sm_info _ _)
   rw [results_cell_tmp rfl]
   simp [asAddr, Result.andThen, hld]
 ·have hq1 : (momF n r == 0) = false := beq_eq_false_iff_ne.2 hz
  have HP : Hid (atF k n r = momF n r) := Lib.hid (by unfold atF; rw [if_pos hz])
  have HNE := Lib.hid hz
  clear hz
  go_wp2_with (first | (refine wpList_load_row rfl _ _ rfl b_s rfl _ (smA (k9) t9) _ _ HR_s.out Tryz.underlying59 rfl (sm_info _ _) ?_) | (refine wpList_store_row rfl _ _ _ rfl (w.heap.size + 1) (smA (k9) t9) rfl rfl _ _ HR_o.out (sm_info _ _) rfl (sm_all _ _) ?_))
  obtain ⟨w4', hX⟩ : ∃ Z9, Z9 = w3'.setRow (w.heap.size + 1) (smA (k9) t9) := ⟨_, rfl⟩
  rw [← hX]
  have n_o : Hid (RH w4' (w.heap.size + 1) (smA (k9) t9) 59) := by rw [hX]; exact Lib.hid (HR_o.out.row _)
  have n_m : Hid (RH w4' w.heap.size (mrA (n) r) 35) := by rw [hX]; exact Lib.hid (HR_m.out.row_other (show w.heap.size ≠ (w.heap.size + 1) by omega) _)
  have n_s : Hid (RH w4' b_s (smA (k9) t9) 59) := by rw [hX]; exact Lib.hid (HR_s.out.row_other (show b_s ≠ (w.heap.size + 1) by omega) _)
  have HK_ : ∀ p : Addr, p.block ≠ (w.heap.size + 1) → w4'.cell? p = w3'.cell? p := fun p hp => by rw [hX]; exact cell_setRow_other _ _ _ p hp
  have n_HRD : Hid (RdIf w4' (momF n r) n r k9 t9) := Lib.hid (HRD.out.far HR_o.out.box (sm_nw _ _) HK_)
  have nW : Hid (Below w.heap.size w w4') := by rw [hX]; exact Lib.hid (below_setRow HW.out (show w.heap.size ≤ (w.heap.size + 1) by omega) _)
  clear hX HK_ HW HR_m HR_o HR_s HRD
  have HR_m := n_m; clear n_m
  have HR_o := n_o; clear n_o
  have HR_s := n_s; clear n_s
  have HRD := n_HRD; clear n_HRD
  have HW := nW; clear nW
  refine bodyPost_ret (v := .tuple #[.agg (smA (k9) t9), .int .i64 (momF n r)]) ?_ rfl ⟨k9, t9, by rw [HP.out], (fun h => absurd (HP.out.symm.trans h) HNE.out), HW.out⟩
  have hld := run_loadVar_row (P := Tryz.prog) _ _ _ 59 _ _ _ HR_o.out Tryz.underlying59 rfl (sm_info _ _)
  rw [results_cell_tmp rfl]
  simp [asAddr, Result.andThen, hld]
end Nm
end Go.Proofs.YtlbnjgnbpiidaaaGreatDoor
