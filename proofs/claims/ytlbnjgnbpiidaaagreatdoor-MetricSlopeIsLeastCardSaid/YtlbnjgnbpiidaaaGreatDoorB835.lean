/- What the functions of moments give, as values, and wrappers. Printed by gen_momf.py. slope and Slope of package metric. Printed by gen_adj.py. -/
import Derived.Test.YtlbnjgnbpiidaaaGreatDoorB834
import Derived.Test.YtlbnjgnbpiidaaaGreatDoorB833
namespace Go.Proofs.YtlbnjgnbpiidaaaGreatDoor
open Go.RowKit
namespace Nm
def rtN (f : Int) (q : Rat) : ByteArray := if f = 0 then showN q else ⟨#[]⟩
def rtD (f : Int) (q : Rat) : ByteArray := if f = 0 then showD q else ⟨#[]⟩
def nF (f n : Int) : Int := if f = 0 then n else 0
theorem rtN_0 (q : Rat) : rtN 0 q = showN q := if_pos rfl
theorem rtD_0 (q : Rat) : rtD 0 q = showD q := if_pos rfl
theorem rtN_no {f : Int} (h : f ≠ 0) (q : Rat) : rtN f q = ⟨#[]⟩ := if_neg h
theorem rtD_no {f : Int} (h : f ≠ 0) (q : Rat) : rtD f q = ⟨#[]⟩ := if_neg h
theorem nF_no {f : Int} (h : f ≠ 0) (n : Int) : nF f n = 0 := if_neg h
/-- the mean, and the variance of the mean -/
def meQ (n : Int) (q : Q5) : Rat := q.x / (n : Rat)
def RqPost (w : World) (f : Int) (q : Rat) (e : Ending) (w' : World) : Prop := e = .returned (.tuple #[.agg #[.string (rtN f q), .string (rtD f q)], .int .i64 f]) ∧ Below w.heap.size w w'
theorem QL.me {n : Int} {q : Q5} (h : QL q) (h0 : 1 ≤ n) (h1 : n ≤ 20000) : Ln 100 5 (meQ n q) :=
 (h.x.div (ln_n (by omega) h1) (n_ne h0)).mono (by omega) (by omega)
theorem mom_ql {n : Int} {r : R5} (h : momF n r = 0) : 0 ≤ n ∧ n ≤ 20000 ∧ QL r.q ∧ r = r.q.r := by
 obtain ⟨⟨h0, h1⟩, _, q, e1, e2, hl, _⟩ := mom_parts h
 exact ⟨h0, h1, by rw [e2]; exact hl, by rw [e2]; exact e1⟩
theorem at_ql {k n : Int} {r : R5} (h : atF k n r = 0) : momF n r = 0 ∧ k ≤ n ∧ n ≤ 20000 ∧ QL r.q := by
 obtain ⟨h1, h2⟩ := at_parts h
 obtain ⟨_, h3, h4, _⟩ := mom_ql h1
 exact ⟨h1, h2, h3, h4⟩
theorem ratio_is (q : Rat) (hf : Fits q) (hs : Sm q) (v : Value) (w : World) (hx : XR w v q) : Calls Tryz.prog 22 #[v] w (fun e w' => e = .returned (.tuple #[.agg #[.string (showN q), .string (showD q)], .int .i64 0]) ∧ Below w.heap.size w w') := by
 refine (ratio_at q v w hx hs.1 hs.2).mono ?_
 rintro e w' ⟨rfl, hb⟩
 rw [(out_fits hf).1, (out_fits hf).2.1, (out_fits hf).2.2]
 exact ⟨rfl, hb⟩
theorem xs_2 {w : World} {m v : Rat} {tm tv : Y3} (htm : XR w (y3V tm) m) (htv : XR w (y3V tv) v) : XsQ (w.alloc (.cells #[.bool tm.b, .slice tm.a1 tm.n1 tm.c1, .slice tm.a2 tm.n2 tm.c2, .bool tv.b, .slice tv.a1 tv.n1 tv.c1, .slice tv.a2 tv.n2 tv.c2] 52)) [m, v] [tm, tv] (some ⟨w.heap.size, 0, none⟩) 2 := by
 refine ⟨rfl, Sl.new _ _ _ 2 2 (by omega) (by decide), fun i t q h1 h2 => ?_⟩
 match i with
 | 0 =>
  obtain rfl : tm = t := Option.some.inj h1
  obtain rfl : m = q := Option.some.inj h2
  exact htm.ext (ext_alloc _ _)
 | 1 =>
  obtain rfl : tv = t := Option.some.inj h1
  obtain rfl : v = q := Option.some.inj h2
  exact htv.ext (ext_alloc _ _)
 | i + 2 => simp at h1
theorem ratios2_at (m v : Rat) (tm tv : Y3) (w : World) (htm : XR w (y3V tm) m) (htv : XR w (y3V tv) v) (hf : (Fits m ∧ Sm m) ∧ (Fits v ∧ Sm v)) : Calls Tryz.prog 63 #[.slice (some ⟨w.heap.size, 0, none⟩) 2 2] (w.alloc (.cells #[.bool tm.b, .slice tm.a1 tm.n1 tm.c1, .slice tm.a2 tm.n2 tm.c2, .bool tv.b, .slice tv.a1 tv.n1 tv.c1, .slice tv.a2 tv.n2 tv.c2] 52)) (fun e w' => ∃ pa pc, e = .returned (.tuple #[.slice pa 2 pc, .int .i64 0]) ∧ Sl w' (.slice pa 2 pc) 2 ([m, v].flatMap rtC) ∧ Below w.heap.size w w') := by
 refine (ratios_at [m, v] [tm, tv] (some ⟨w.heap.size, 0, none⟩) 2 _ (xs_2 htm htv) (fun q hq => ?_) (by simp)).mono ?_
 ·simp only [List.mem_cons, List.not_mem_nil, or_false] at hq
  rcases hq with rfl | rfl
  ·exact hf.1
  ·exact hf.2
 ·rintro e w' ⟨a, c, rfl, hs, hb⟩
  exact ⟨a, c, rfl, hs, ext_trans (ext_alloc _ _) hb⟩
end Nm
end Go.Proofs.YtlbnjgnbpiidaaaGreatDoor
namespace Go.Proofs.YtlbnjgnbpiidaaaGreatDoor
open Go.RowKit
namespace Nm
open _root_.Go.Proofs.YtlbnjgnbpiidaaaGreatDoor.Nt (RH RH.cell RH.box RH.row RH.lt RH.new RH.ext RH.fre RH.set RH.other RH.row_other store_cells)

/-- arms that are few and right -/
structure ArmsOk (l : List Arm) : Prop where
 len : l.length ≤ 20
 ok : ∀ a ∈ l, (1 ≤ a.n ∧ a.n ≤ 20000) ∧ QL a.q
theorem arms_ok {k : Int} (hk : 1 ≤ k) {l : List MV} (h : raF k l = 0) : ArmsOk (armL l) := by
 refine ⟨by unfold armL; rw [List.length_map]; exact (ra_parts h).1.2, fun a ha => ?_⟩
 obtain ⟨m, hm, rfl⟩ := List.mem_map.1 ha
 obtain ⟨⟨h1, _, h3⟩, _, _, hq, _⟩ := ra_arm h hm
 exact ⟨⟨by show 1 ≤ m.n; omega, h3⟩, hq⟩
/-- the size of a sum of k spreads -/
def ApOk (k : Nat) (q : Rat) : Prop := Ln (202 + 6 * k) (5 * k) q
theorem ApOk.zero : ApOk 0 0 := Ln.nat (n := 0) (a := 202) (Nat.zero_le _)
theorem ApOk.add {k : Nat} {q t : Rat} (h : ApOk k q) (ht : Ln 201 5 t) : ApOk (k + 1) (q + t) := (Ln.add h ht).mono (by omega) (by omega)
theorem ApOk.sm {k : Nat} {q : Rat} (h : ApOk k q) (hk : k ≤ 20) : Sm q := Ln.sm h (by omega) (by omega)
theorem aB_take {l : List Arm} {k : Nat} (h : k < l.length) : aB (l.take (k + 1)) = aB (l.take k) + spB l[k].n l[k].q := by rw [List.take_succ_eq_append_getElem h, aB_app]
theorem aC_take {l : List Arm} {k : Nat} (h : k < l.length) : aC (l.take (k + 1)) = aC (l.take k) + spC l[k].n l[k].q := by rw [List.take_succ_eq_append_getElem h, aC_app]
theorem aB_ok {l : List Arm} (hl : ArmsOk l) : ∀ k, k ≤ l.length → ApOk k (aB (l.take k))
 | 0, _ => ApOk.zero
 | k + 1, h => by
  have ho := hl.ok _ (List.getElem_mem (show k < l.length by omega))
  rw [aB_take (by omega)]; exact (aB_ok hl k (by omega)).add (ho.2.spB ho.1.1 ho.1.2)
theorem aC_ok {l : List Arm} (hl : ArmsOk l) : ∀ k, k ≤ l.length → ApOk k (aC (l.take k))
 | 0, _ => ApOk.zero
 | k + 1, h => by
  have ho := hl.ok _ (List.getElem_mem (show k < l.length by omega))
  rw [aC_take (by omega)]; exact (aC_ok hl k (by omega)).add (ho.2.spC ho.1.1 ho.1.2)
theorem sl_ln {l : List Arm} (hl : ArmsOk l) : Ln 422 422 (slQ l) := by
 have hB := aB_ok hl l.length (Nat.le_refl _)
 have hC := aC_ok hl l.length (Nat.le_refl _)
 rw [List.take_length] at hB hC
 have h1 := hl.len
 unfold slQ
 by_cases h0 : aB l = 0
 ·rw [if_pos h0]; exact Ln.mono (Ln.nat (n := 0) (a := 0) (Nat.zero_le _)) (by omega) (by omega)
 ·rw [if_neg h0]; exact (Ln.div hC hB h0).mono (by omega) (by omega)
/-- sums in memory, as arms -/
structure SsA (w : World) (al : List Arm) (ss : List SN) (a : Option Addr) (c : Nat) : Prop where
 len : ss.length = al.length
 sl : Sl w (.slice a ss.length c) ss.length (ss.flatMap snL)
 ok : ∀ (i : Nat) s m, ss[i]? = some s → al[i]? = some m → s.n = m.n ∧ SX w s.t m.q
theorem SsA.ext {w w' : World} {al : List Arm} {ss : List SN} {a : Option Addr} {c : Nat} (h : SsA w al ss a c) (hb : Below w.heap.size w w') : SsA w' al ss a c :=
 ⟨h.len, h.sl.ext hb, fun i x r h1 h2 => ⟨(h.ok i x r h1 h2).1, (h.ok i x r h1 h2).2.ext hb⟩⟩
theorem SsOf.arms {w : World} {l : List MV} {ss : List SN} {a : Option Addr} {c : Nat} (h : SsOf w l ss a c) : SsA w (armL l) ss a c := by
 refine ⟨by rw [h.len]; unfold armL; rw [List.length_map], h.sl, fun i s m h1 h2 => ?_⟩
 unfold armL at h2
 rw [List.getElem?_map] at h2
 cases hl : l[i]? with
 | none => rw [hl] at h2; cases h2
 | some mv =>
  rw [hl] at h2
  injection h2 with h2
  subst h2
  exact h.ok i s mv h1 hl
set_option maxRecDepth 100000 in
set_option maxHeartbeats 16000000 in
theorem slope_at (al : List Arm) (hok : ArmsOk al) (ss : List SN) (a : Option Addr) (c : Nat) (w : World) (h : SsA w al ss a c) : Calls Tryz.prog 21 #[.slice a ss.length c] w (XPost w (slQ al)) := by
 have HSS := Lib.hid h
 have HOK := Lib.hid hok
 clear h hok
 obtain ⟨z, hz⟩ : ∃ z : Rat, ((0 : Int) : Rat) = z := ⟨_, rfl⟩
 have HZQ := Lib.hid hz
 have HZ0 : Hid (z = 0) := Lib.hid (by rw [← hz]; rfl)
 clear hz
 go_enter Tryz.func21, Tryz.ntmps21
 go_upto_region 1 with (fail)
 refine wp_rows1 fun w1' hbz hR0 => ?_
 have HR_o : Hid (RH w1' w.heap.size #[.bool false, .slice none 0 0, .slice none 0 0] 52) := Lib.hid hR0
 have HW := Lib.hid hbz
 clear hbz hR0
 go_wp2_with fail
 refine (mwhole_is 0 z HZQ.out (by decide) (by decide) w1').mono ?_
 rintro e w2' ⟨v1, rfl, hv1, hbz⟩
 obtain ⟨ta0, rfl, hxa⟩ := hv1.y3
 clear hv1
 replace HR_o := Lib.hid (HR_o.out.ext hbz)
 replace HW := Lib.hid (ext_trans HW.out hbz)
 clear hbz
 have HXa : Hid (XR w2' (y3V ta0) z) := Lib.hid hxa
 clear hxa
 go_wp2_with fail
 refine (mwhole_is 0 z HZQ.out (by decide) (by decide) w2').mono ?_
 rintro e w3' ⟨v1, rfl, hv1, hbz⟩
 obtain ⟨tb0, rfl, hxb⟩ := hv1.y3
 clear hv1
 replace HR_o := Lib.hid (HR_o.out.ext hbz)
 replace HXa := Lib.hid (HXa.out.ext hbz)
 replace HW := Lib.hid (ext_trans HW.out hbz)
 clear hbz
 have HXb : Hid (XR w3' (y3V tb0) z) := Lib.hid hxb
 clear hxb
 go_upto_region 2 with (fail)
 refine wp_rows2 fun w4' hbz hR0 hR1 => ?_
 have lt_o_u : w.heap.size < w3'.heap.size := HR_o.out.lt
 have le_u : w.heap.size ≤ w3'.heap.size := HW.out.size
 replace HR_o := Lib.hid (HR_o.out.ext hbz)
 replace HXa := Lib.hid (HXa.out.ext hbz)
 replace HXb := Lib.hid (HXb.out.ext hbz)
 replace HW := Lib.hid (ext_trans HW.out hbz)
 clear hbz
 have HR_u : Hid (RH w4' w3'.heap.size #[.bool ta0.b, .slice ta0.a1 ta0.n1 ta0.c1, .slice ta0.a2 ta0.n2 ta0.c2] 52) := Lib.hid hR0
 have HR_v : Hid (RH w4' (w3'.heap.size + 1) #[.bool tb0.b, .slice tb0.a1 tb0.n1 tb0.c1, .slice tb0.a2 tb0.n2 tb0.c2] 52) := Lib.hid hR1
 clear hR0 hR1
 generalize w3'.heap.size = b_u at *
 go_wp2
 go_loopw [14] (fun i wr => ∃ (k : Nat) (ta tb : Y3), k ≤ ss.length ∧ i = .int .i64 (k : Int) ∧ (RH wr w.heap.size #[.bool false, .slice none 0 0, .slice none 0 0] 52) ∧ (RH wr b_u #[.bool ta.b, .slice ta.a1 ta.n1 ta.c1, .slice ta.a2 ta.n2 ta.c2] 52) ∧ (RH wr (b_u + 1) #[.bool tb.b, .slice tb.a1 tb.n1 tb.c1, .slice tb.a2 tb.n2 tb.c2] 52) ∧ (XR wr (y3V ta) (aC (al.take k))) ∧ (XR wr (y3V tb) (aB (al.take k))) ∧ (Below w.heap.size w wr)) (fun i _ => ss.length - (intOf i).toNat)
 case atStart => exact ⟨0, ta0, tb0, by omega, rfl, HR_o.out, HR_u.out, HR_v.out, (by have h := HXa.out; rw [HZ0.out] at h; exact h), (by have h := HXb.out; rw [HZ0.out] at h; exact h), HW.out⟩
 case round =>
  obtain ⟨k, ta, tb, hk, rfl, q_HR_o, q_HR_u, q_HR_v, q_HXa, q_HXb, q_HW⟩ := hrel
  clear HR_o HR_u HR_v HXa HXb HW
  have HR_o := Lib.hid q_HR_o
  have HR_u := Lib.hid q_HR_u
  have HR_v := Lib.hid q_HR_v
  have HXa := Lib.hid q_HXa
  have HXb := Lib.hid q_HXb
  have HW := Lib.hid q_HW
  clear q_HR_o q_HR_u q_HR_v q_HXa q_HXb q_HW
  generalize hX : wr = X at *
  clear hX
  have hsl : ss.length ≤ 20 := by have h1 := HOK.out.len; have h2 := HSS.out.len; omega
  have HSMB := Lib.hid ((aB_ok HOK.out k (by have h2 := HSS.out.len; omega)).sm (by omega))
  have HSMC := Lib.hid ((aC_ok HOK.out k (by have h2 := HSS.out.len; omega)).sm (by omega))
  by_cases hlt : k < ss.length
  ·have hgk := List.getElem?_eq_getElem hlt
   have hal : k < al.length := by rw [← HSS.out.len]; exact hlt
   have HM := Lib.hid ((HSS.out.ext HW.out).ok k _ _ hgk (List.getElem?_eq_getElem hal))
   have HAK := Lib.hid (HOK.out.ok _ (List.getElem_mem hal))
   have HTB := Lib.hid (aB_take hal)
   have HTC := Lib.hid (aC_take hal)
   generalize al[k] = ar at *
   obtain ⟨an, aq⟩ := ar
   generalize ss[k] = sn at *
   obtain ⟨sn_, st⟩ := sn
   obtain ⟨pb, po, hp9, hcs⟩ := ((HSS.out.ext HW.out).sl).elem (f := snL) (fun _ => rfl) (by omega : 0 < 16) hgk
   subst hp9
   have e0 : X.cell? ⟨pb, po + k * 16, none⟩ = some (.int .i64 (sn_)) := hcs 0 _ rfl
   have e1 : X.cell? ⟨pb, po + k * 16 + 1, none⟩ = some (.bool st.x.b) := hcs 1 _ rfl
   have e2 : X.cell? ⟨pb, po + k * 16 + 2, none⟩ = some (.slice st.x.a1 st.x.n1 st.x.c1) := hcs 2 _ rfl
   have e3 : X.cell? ⟨pb, po + k * 16 + 3, none⟩ = some (.slice st.x.a2 st.x.n2 st.x.c2) := hcs 3 _ rfl
   have e4 : X.cell? ⟨pb, po + k * 16 + 4, none⟩ = some (.bool st.y.b) := hcs 4 _ rfl
   have e5 : X.cell? ⟨pb, po + k * 16 + 5, none⟩ = some (.slice st.y.a1 st.y.n1 st.y.c1) := hcs 5 _ rfl
   have e6 : X.cell? ⟨pb, po + k * 16 + 6, none⟩ = some (.slice st.y.a2 st.y.n2 st.y.c2) := hcs 6 _ rfl
   have e7 : X.cell? ⟨pb, po + k * 16 + 7, none⟩ = some (.bool st.xx.b) := hcs 7 _ rfl
   have e8 : X.cell? ⟨pb, po + k * 16 + 8, none⟩ = some (.slice st.xx.a1 st.xx.n1 st.xx.c1) := hcs 8 _ rfl
   have e9 : X.cell? ⟨pb, po + k * 16 + 9, none⟩ = some (.slice st.xx.a2 st.xx.n2 st.xx.c2) := hcs 9 _ rfl
   have e10 : X.cell? ⟨pb, po + k * 16 + 10, none⟩ = some (.bool st.yy.b) := hcs 10 _ rfl
   have e11 : X.cell? ⟨pb, po + k * 16 + 11, none⟩ = some (.slice st.yy.a1 st.yy.n1 st.yy.c1) := hcs 11 _ rfl
   have e12 : X.cell? ⟨pb, po + k * 16 + 12, none⟩ = some (.slice st.yy.a2 st.yy.n2 st.yy.c2) := hcs 12 _ rfl
   have e13 : X.cell? ⟨pb, po + k * 16 + 13, none⟩ = some (.bool st.xy.b) := hcs 13 _ rfl
   have e14 : X.cell? ⟨pb, po + k * 16 + 14, none⟩ = some (.slice st.xy.a1 st.xy.n1 st.xy.c1) := hcs 14 _ rfl
   have e15 : X.cell? ⟨pb, po + k * 16 + 15, none⟩ = some (.slice st.xy.a2 st.xy.n2 st.xy.c2) := hcs 15 _ rfl
   have hk0 : (0 : Int) ≤ (k : Int) := Int.natCast_nonneg _
   have hk1 : (k : Int) < (ss.length : Int) := by omega
   have hk3 : (k : Int).toNat = k := by omega
   clear hcs hgk
   obtain rfl : sn_ = an := HM.out.1
   have hn0 : 1 ≤ sn_ := HAK.out.1.1
   have hn1 : sn_ ≤ 20000 := HAK.out.1.2
   have HX : Hid (SX X st aq) := Lib.hid (HM.out.2)
   go_upto_region 5 with (fail)
   refine wp_rows1 fun w5' hbz hR0 => ?_
   have lt_o_s : w.heap.size < X.heap.size := HR_o.out.lt
   have lt_u_s : b_u < X.heap.size := HR_u.out.lt
   have lt_v_s : (b_u + 1) < X.heap.size := HR_v.out.lt
   have le_s : w.heap.size ≤ X.heap.size := HW.out.size
   replace HR_o := Lib.hid (HR_o.out.ext hbz)
   replace HR_u := Lib.hid (HR_u.out.ext hbz)
   replace HR_v := Lib.hid (HR_v.out.ext hbz)
   replace HXa := Lib.hid (HXa.out.ext hbz)
   replace HXb := Lib.hid (HXb.out.ext hbz)
   replace HX := Lib.hid (HX.out.ext hbz)
   replace HW := Lib.hid (ext_trans HW.out hbz)
   clear e0 e1 e2 e3 e4 e5 e6 e7 e8 e9 e10 e11 e12 e13 e14 e15
   clear hbz
   have HR_s : Hid (RH w5' X.heap.size (smA (sn_) st) 59) := Lib.hid hR0
   clear hR0
   generalize X.heap.size = b_s at *
   go_wp2_with (first | (refine wpList_load_row rfl _ _ rfl b_s rfl _ (smA (sn_) st) _ _ HR_s.out Tryz.underlying59 rfl (sm_info _ _) ?_))
   refine (spread_at sn_ hn0 hn1 st aq w5' HX.out HAK.out.2).mono ?_
   rintro e w6' ⟨t1, t2, t3, rfl, _, hx2, hx3, hbz⟩
   replace HR_o := Lib.hid (HR_o.out.ext hbz)
   replace HR_u := Lib.hid (HR_u.out.ext hbz)
   replace HR_v := Lib.hid (HR_v.out.ext hbz)
   replace HR_s := Lib.hid (HR_s.out.ext hbz)
   replace HXa := Lib.hid (HXa.out.ext hbz)
   replace HXb := Lib.hid (HXb.out.ext hbz)
   replace HX := Lib.hid (HX.out.ext hbz)
   replace HW := Lib.hid (ext_trans HW.out hbz)
   clear hbz
   have HX2 : Hid (XR w6' (y3V t2) (spB sn_ aq)) := Lib.hid hx2
   clear hx2
   have HX3 : Hid (XR w6' (y3V t3) (spC sn_ aq)) := Lib.hid hx3
   clear hx3
   clear HX
   clear HR_s
   go_upto_region 6 with (fail)
   refine wp_rows3 fun w7' hbz hR0 hR1 hR2 => ?_
   have lt_o_x : w.heap.size < w6'.heap.size := HR_o.out.lt
   have lt_u_x : b_u < w6'.heap.size := HR_u.out.lt
   have lt_v_x : (b_u + 1) < w6'.heap.size := HR_v.out.lt
   have le_x : w.heap.size ≤ w6'.heap.size := HW.out.size
   replace HR_o := Lib.hid (HR_o.out.ext hbz)
   replace HR_u := Lib.hid (HR_u.out.ext hbz)
   replace HR_v := Lib.hid (HR_v.out.ext hbz)
   replace HXa := Lib.hid (HXa.out.ext hbz)
   replace HXb := Lib.hid (HXb.out.ext hbz)
   replace HX2 := Lib.hid (HX2.out.ext hbz)
   replace HX3 := Lib.hid (HX3.out.ext hbz)
   replace HW := Lib.hid (ext_trans HW.out hbz)
   clear hbz
   have HR_x : Hid (RH w7' w6'.heap.size #[.bool t1.b, .slice t1.a1 t1.n1 t1.c1, .slice t1.a2 t1.n2 t1.c2] 52) := Lib.hid hR0
   have HR_y : Hid (RH w7' (w6'.heap.size + 1) #[.bool t2.b, .slice t2.a1 t2.n1 t2.c1, .slice t2.a2 t2.n2 t2.c2] 52) := Lib.hid hR1
   have HR_c : Hid (RH w7' (w6'.heap.size + 2) #[.bool t3.b, .slice t3.a1 t3.n1 t3.c1, .slice t3.a2 t3.n2 t3.c2] 52) := Lib.hid hR2
   clear hR0 hR1 hR2
   generalize w6'.heap.size = b_x at *
   obtain ⟨pa, hpa⟩ : ∃ z, aC (al.take k) = z := ⟨_, rfl⟩
   obtain ⟨pb', hpb⟩ : ∃ z, aB (al.take k) = z := ⟨_, rfl⟩
   obtain ⟨sb, hsb⟩ : ∃ z, spB sn_ aq = z := ⟨_, rfl⟩
   obtain ⟨sc, hsc⟩ : ∃ z, spC sn_ aq = z := ⟨_, rfl⟩
   obtain ⟨qa, hqa⟩ : ∃ z, aC (al.take (k + 1)) = z := ⟨_, rfl⟩
   obtain ⟨qb, hqb⟩ : ∃ z, aB (al.take (k + 1)) = z := ⟨_, rfl⟩
   have HEA : Hid (pa + sc = qa) := Lib.hid (by rw [← hpa, ← hsc, ← hqa]; exact HTC.out.symm)
   have HEB : Hid (pb' + sb = qb) := Lib.hid (by rw [← hpb, ← hsb, ← hqb]; exact HTB.out.symm)
   have HSS2 : Hid (Sm sc ∧ Sm sb) := Lib.hid ⟨by rw [← hsc]; exact (HAK.out.2.spC hn0 hn1).sm (by omega) (by omega), by rw [← hsb]; exact (HAK.out.2.spB hn0 hn1).sm (by omega) (by omega)⟩
   rw [hpa] at HXa HSMC
   rw [hpb] at HXb HSMB
   rw [hsb] at HX2
   rw [hsc] at HX3
   have HQA := Lib.hid (And.intro hqa hqb)
   clear hpa hpb hsb hsc hqa hqb HTB HTC
   obtain ⟨c_u_0, c_u_1, c_u_2⟩ := zs3 HR_u.out
   obtain ⟨c_v_0, c_v_1, c_v_2⟩ := zs3 HR_v.out
   obtain ⟨c_y_0, c_y_1, c_y_2⟩ := zs3 HR_y.out
   obtain ⟨c_c_0, c_c_1, c_c_2⟩ := zs3 HR_c.out
   refine Grow.wp_region_grow 6 [TP.eq (.agg #[.bool ta.b, .slice ta.a1 ta.n1 ta.c1, .slice ta.a2 ta.n2 ta.c2]), TP.eq (.agg #[.bool t3.b, .slice t3.a1 t3.n1 t3.c1, .slice t3.a2 t3.n2 t3.c2]), TP.xq qa, TP.eq (.agg #[.bool tb.b, .slice tb.a1 tb.n1 tb.c1, .slice tb.a2 tb.n2 tb.c2]), TP.eq (.agg #[.bool t2.b, .slice t2.a1 t2.n1 t2.c1, .slice t2.a2 t2.n2 t2.c2]), TP.xq qb] [[], [], [0, 1], [], [], [3, 4]] (by kernel_rfl) (by kernel_rfl) ⟨?o0s, ?o1s, ?o2s, ?o3s, ?o4s, ?o5s, trivial⟩ ?_
   case o0s | o1s | o3s | o4s =>
    intro w' hb
    have c_u_0' := zzc hb c_u_0
    have c_u_1' := zzc hb c_u_1
    have c_u_2' := zzc hb c_u_2
    have c_c_0' := zzc hb c_c_0
    have c_c_1' := zzc hb c_c_1
    have c_c_2' := zzc hb c_c_2
    have c_v_0' := zzc hb c_v_0
    have c_v_1' := zzc hb c_v_1
    have c_v_2' := zzc hb c_v_2
    have c_y_0' := zzc hb c_y_0
    have c_y_1' := zzc hb c_y_1
    have c_y_2' := zzc hb c_y_2
    show wpList _ _ _ _ _ _
    go_wp2
    exact ⟨rfl, Below.refl _ _, rfl⟩
   case o2s =>
    intro w' hb v1 hv1 v2 hv2
    cases hv1
    cases hv2
    show wpList _ _ _ _ _ _
    simp only [Grow.dstOf, zzp, Act.put]
    go_wp2_with fail
    refine (xplus_sm pa sc qa HEA.out _ _ w' (HXa.out.ext hb) (HX3.out.ext hb) HSMC.out HSS2.out.1).mono ?_
    rintro e wz ⟨vz, rfl, hxz, hbz⟩
    go_wp2
    exact ⟨hxz, hbz, rfl⟩
   case o5s =>
    intro w' hb v1 hv1 v2 hv2
    cases hv1
    cases hv2
    show wpList _ _ _ _ _ _
    simp only [Grow.dstOf, zzp, Act.put]
    go_wp2_with fail
    refine (xplus_sm pb' sb qb HEB.out _ _ w' (HXb.out.ext hb) (HX2.out.ext hb) HSMB.out HSS2.out.2).mono ?_
    rintro e wz ⟨vz, rfl, hxz, hbz⟩
    go_wp2
    exact ⟨hxz, hbz, rfl⟩
   intro w8' hbz u0 hu0 u1 hu1 u2 hu2 u3 hu3 u4 hu4 u5 hu5
   clear hu0 hu1 hu3 hu4
   replace HR_o := Lib.hid (HR_o.out.ext hbz)
   replace HR_u := Lib.hid (HR_u.out.ext hbz)
   replace HR_v := Lib.hid (HR_v.out.ext hbz)
   replace HR_x := Lib.hid (HR_x.out.ext hbz)
   replace HR_y := Lib.hid (HR_y.out.ext hbz)
   replace HR_c := Lib.hid (HR_c.out.ext hbz)
   replace HXa := Lib.hid (HXa.out.ext hbz)
   replace HXb := Lib.hid (HXb.out.ext hbz)
   replace HX2 := Lib.hid (HX2.out.ext hbz)
   replace HX3 := Lib.hid (HX3.out.ext hbz)
   replace HW := Lib.hid (ext_trans HW.out hbz)
   clear c_u_0 c_u_1 c_u_2 c_v_0 c_v_1 c_v_2 c_y_0 c_y_1 c_y_2 c_c_0 c_c_1 c_c_2
   clear hbz
   clear HXa
   clear HXb
   clear HX2
   clear HX3
   clear HR_x
   clear HR_y
   clear HR_c
   have ha : XR w8' u2 qa := hu2
   clear hu2
   obtain ⟨ta2, rfl, hxa⟩ := ha.y3
   clear ha
   have HXa : Hid (XR w8' (y3V ta2) qa) := Lib.hid (hxa)
   clear hxa
   have hb : XR w8' u5 qb := hu5
   clear hu5
   obtain ⟨tb2, rfl, hxb⟩ := hb.y3
   clear hb
   have HXb : Hid (XR w8' (y3V tb2) qb) := Lib.hid (hxb)
   clear hxb
   show wpList _ _ _ _ _ _
   simp only [Act.put, zzp]
   obtain ⟨c_u_0, c_u_1, c_u_2⟩ := zs3 HR_u.out
   have f_u_0 := HR_u.out.fre 0
   have f_u_1 := HR_u.out.fre 1
   have f_u_2 := HR_u.out.fre 2
   obtain ⟨c_v_0, c_v_1, c_v_2⟩ := zs3 HR_v.out
   have f_v_0 := HR_v.out.fre 0
   have f_v_1 := HR_v.out.fre 1
   have f_v_2 := HR_v.out.fre 2
   go_upto_region 7 with (fail)
   obtain ⟨w9', hX⟩ : ∃ Z9, Z9 = (((w8'.setCell ⟨b_u, 0, none⟩ (.bool ta2.b)).setCell ⟨b_u, 1, none⟩ (.slice ta2.a1 ta2.n1 ta2.c1)).setCell ⟨b_u, 2, none⟩ (.slice ta2.a2 ta2.n2 ta2.c2)) := ⟨_, rfl⟩
   rw [← hX]
   have n_u : Hid (RH w9' b_u #[.bool ta2.b, .slice ta2.a1 ta2.n1 ta2.c1, .slice ta2.a2 ta2.n2 ta2.c2] 52) := by rw [hX]; exact Lib.hid ((((HR_u.out).set 0 (.bool ta2.b)).set 1 (.slice ta2.a1 ta2.n1 ta2.c1)).set 2 (.slice ta2.a2 ta2.n2 ta2.c2))
   have n_o : Hid (RH w9' w.heap.size #[.bool false, .slice none 0 0, .slice none 0 0] 52) := by rw [hX]; exact Lib.hid (zzo (zzo (zzo (HR_o.out) (by omega)) (by omega)) (by omega))
   have n_v : Hid (RH w9' (b_u + 1) #[.bool tb.b, .slice tb.a1 tb.n1 tb.c1, .slice tb.a2 tb.n2 tb.c2] 52) := by rw [hX]; exact Lib.hid (zzo (zzo (zzo (HR_v.out) (by omega)) (by omega)) (by omega))
   have HK_ : ∀ p : Addr, p.block ≠ b_u → w9'.cell? p = w8'.cell? p := fun p hp => by rw [hX]; exact (cs_other hp).trans ((cs_other hp).trans (cs_other hp))
   have n_HXa : Hid (XR w9' (y3V ta2) qa) := Lib.hid (HXa.out.far HR_u.out.box (noW_all (by simp [isWord])) HK_)
   have n_HXb : Hid (XR w9' (y3V tb2) qb) := Lib.hid (HXb.out.far HR_u.out.box (noW_all (by simp [isWord])) HK_)
   have nW : Hid (Below w.heap.size w w9') := by rw [hX]; exact Lib.hid (zzw (zzw (zzw (HW.out) (by omega)) (by omega)) (by omega))
   clear c_u_0 c_u_1 c_u_2 f_u_0 f_u_1 f_u_2 c_v_0 c_v_1 c_v_2 f_v_0 f_v_1 f_v_2
   clear hX HK_ HW HR_o HR_u HR_v HXa HXb
   have HR_o := n_o; clear n_o
   have HR_u := n_u; clear n_u
   have HR_v := n_v; clear n_v
   have HXa := n_HXa; clear n_HXa
   have HXb := n_HXb; clear n_HXb
   have HW := nW; clear nW
   obtain ⟨w10', hX⟩ : ∃ Z9, Z9 = (((w9'.setCell ⟨(b_u + 1), 0, none⟩ (.bool tb2.b)).setCell ⟨(b_u + 1), 1, none⟩ (.slice tb2.a1 tb2.n1 tb2.c1)).setCell ⟨(b_u + 1), 2, none⟩ (.slice tb2.a2 tb2.n2 tb2.c2)) := ⟨_, rfl⟩
   rw [← hX]
   have n_v : Hid (RH w10' (b_u + 1) #[.bool tb2.b, .slice tb2.a1 tb2.n1 tb2.c1, .slice tb2.a2 tb2.n2 tb2.c2] 52) := by rw [hX]; exact Lib.hid ((((HR_v.out).set 0 (.bool tb2.b)).set 1 (.slice tb2.a1 tb2.n1 tb2.c1)).set 2 (.slice tb2.a2 tb2.n2 tb2.c2))
   have n_o : Hid (RH w10' w.heap.size #[.bool false, .slice none 0 0, .slice none 0 0] 52) := by rw [hX]; exact Lib.hid (zzo (zzo (zzo (HR_o.out) (by omega)) (by omega)) (by omega))
   have n_u : Hid (RH w10' b_u #[.bool ta2.b, .slice ta2.a1 ta2.n1 ta2.c1, .slice ta2.a2 ta2.n2 ta2.c2] 52) := by rw [hX]; exact Lib.hid (zzo (zzo (zzo (HR_u.out) (by omega)) (by omega)) (by omega))
   have HK_ : ∀ p : Addr, p.block ≠ (b_u + 1) → w10'.cell? p = w9'.cell? p := fun p hp => by rw [hX]; exact (cs_other hp).trans ((cs_other hp).trans (cs_other hp))
   have n_HXa : Hid (XR w10' (y3V ta2) qa) := Lib.hid (HXa.out.far HR_v.out.box (noW_all (by simp [isWord])) HK_)
   have n_HXb : Hid (XR w10' (y3V tb2) qb) := Lib.hid (HXb.out.far HR_v.out.box (noW_all (by simp [isWord])) HK_)
   have nW : Hid (Below w.heap.size w w10') := by rw [hX]; exact Lib.hid (zzw (zzw (zzw (HW.out) (by omega)) (by omega)) (by omega))
   clear hX HK_ HW HR_o HR_u HR_v HXa HXb
   have HR_o := n_o; clear n_o
   have HR_u := n_u; clear n_u
   have HR_v := n_v; clear n_v
   have HXa := n_HXa; clear n_HXa
   have HXb := n_HXb; clear n_HXb
   have HW := nW; clear nW
   rw [← HQA.out.1] at HXa
   rw [← HQA.out.2] at HXb
   go_wp2
   go_roundw
   case rel => exact ⟨k + 1, ta2, tb2, by omega, by go_num, HR_o.out, HR_u.out, HR_v.out, HXa.out, HXb.out, HW.out⟩
   case measure => simp [intOf]; omega
  ·have hkl : k = al.length := by have h2 := HSS.out.len; omega
   rw [hkl, List.take_length] at HXa HXb HSMB HSMC
   clear hkl
   obtain ⟨b, hb0⟩ : ∃ b, decide (aB al = 0) = b := ⟨_, rfl⟩
   have HB0 := Lib.hid hb0
   clear hb0
   obtain ⟨c_v_0, c_v_1, c_v_2⟩ := zs3 HR_v.out
   go_wp2_with fail
   refine (zero_is (aB al) b (by rw [← HB0.out, Bool.eq_iff_iff]; simp [Rat.num_eq_zero]) _ X HXb.out).mono ?_
   rintro e w5' ⟨rfl, hbz⟩
   replace HR_o := Lib.hid (HR_o.out.ext hbz)
   replace HR_u := Lib.hid (HR_u.out.ext hbz)
   replace HR_v := Lib.hid (HR_v.out.ext hbz)
   replace HXa := Lib.hid (HXa.out.ext hbz)
   replace HXb := Lib.hid (HXb.out.ext hbz)
   replace HW := Lib.hid (ext_trans HW.out hbz)
   clear c_v_0 c_v_1 c_v_2
   clear hbz
   cases b
   ·have HNZ : Hid (aB al ≠ 0) := Lib.hid (of_decide_eq_false HB0.out)
    have HSQ : Hid (aC al / aB al = slQ al) := Lib.hid (by unfold slQ; rw [if_neg HNZ.out])
    obtain ⟨c_u_0, c_u_1, c_u_2⟩ := zs3 HR_u.out
    obtain ⟨c_v_0, c_v_1, c_v_2⟩ := zs3 HR_v.out
    go_wp2_with fail
    refine (mover_is (aC al) (aB al) (slQ al) HSQ.out HNZ.out _ _ w5' HXa.out HXb.out HSMC.out HSMB.out).mono ?_
    rintro e w6' ⟨v9, rfl, hv9, hbz⟩
    obtain ⟨t9, rfl, hx9⟩ := hv9.y3
    clear hv9
    replace HR_o := Lib.hid (HR_o.out.ext hbz)
    replace HR_u := Lib.hid (HR_u.out.ext hbz)
    replace HR_v := Lib.hid (HR_v.out.ext hbz)
    replace HXa := Lib.hid (HXa.out.ext hbz)
    replace HXb := Lib.hid (HXb.out.ext hbz)
    replace HW := Lib.hid (ext_trans HW.out hbz)
    clear c_u_0 c_u_1 c_u_2 c_v_0 c_v_1 c_v_2
    clear hbz
    have HX9 : Hid (XR w6' (y3V t9) (slQ al)) := Lib.hid hx9
    clear hx9
    clear HXa
    clear HXb
    clear HR_u
    clear HR_v
    obtain ⟨c_o_0, c_o_1, c_o_2⟩ := zs3 HR_o.out
    have f_o_0 := HR_o.out.fre 0
    have f_o_1 := HR_o.out.fre 1
    have f_o_2 := HR_o.out.fre 2
    go_wp2
    obtain ⟨w7', hX⟩ : ∃ Z9, Z9 = (((w6'.setCell ⟨w.heap.size, 0, none⟩ (.bool t9.b)).setCell ⟨w.heap.size, 1, none⟩ (.slice t9.a1 t9.n1 t9.c1)).setCell ⟨w.heap.size, 2, none⟩ (.slice t9.a2 t9.n2 t9.c2)) := ⟨_, rfl⟩
    rw [← hX]
    have n_o : Hid (RH w7' w.heap.size #[.bool t9.b, .slice t9.a1 t9.n1 t9.c1, .slice t9.a2 t9.n2 t9.c2] 52) := by rw [hX]; exact Lib.hid ((((HR_o.out).set 0 (.bool t9.b)).set 1 (.slice t9.a1 t9.n1 t9.c1)).set 2 (.slice t9.a2 t9.n2 t9.c2))
    have HK_ : ∀ p : Addr, p.block ≠ w.heap.size → w7'.cell? p = w6'.cell? p := fun p hp => by rw [hX]; exact (cs_other hp).trans ((cs_other hp).trans (cs_other hp))
    have n_HX9 : Hid (XR w7' (y3V t9) (slQ al)) := Lib.hid (HX9.out.far HR_o.out.box (noW_all (by simp [isWord])) HK_)
    have nW : Hid (Below w.heap.size w w7') := by rw [hX]; exact Lib.hid (zzw (zzw (zzw (HW.out) (by omega)) (by omega)) (by omega))
    clear c_o_0 c_o_1 c_o_2 f_o_0 f_o_1 f_o_2
    clear hX HK_ HW HR_o HX9
    have HR_o := n_o; clear n_o
    have HX9 := n_HX9; clear n_HX9
    have HW := nW; clear nW
    exact bodyPost_ret (v := .agg #[.bool t9.b, .slice t9.a1 t9.n1 t9.c1, .slice t9.a2 t9.n2 t9.c2]) (results_cell_row rfl _ _ _ _ _ _ _ rfl HR_o.out Tryz.underlying52 rfl (by kernel_rfl : (Tryz.prog.info? 52).map (·.size) = some 3)) rfl ⟨_, rfl, HX9.out, HW.out⟩
   ·have HSQ : Hid (aB al = slQ al) := Lib.hid (by have h := of_decide_eq_true HB0.out; unfold slQ; rw [if_pos h]; exact h)
    rw [HSQ.out] at HXb
    clear HXa
    clear HR_u
    obtain ⟨c_v_0, c_v_1, c_v_2⟩ := zs3 HR_v.out
    obtain ⟨c_o_0, c_o_1, c_o_2⟩ := zs3 HR_o.out
    have f_o_0 := HR_o.out.fre 0
    have f_o_1 := HR_o.out.fre 1
    have f_o_2 := HR_o.out.fre 2
    go_wp2
    obtain ⟨w6', hX⟩ : ∃ Z9, Z9 = (((w5'.setCell ⟨w.heap.size, 0, none⟩ (.bool tb.b)).setCell ⟨w.heap.size, 1, none⟩ (.slice tb.a1 tb.n1 tb.c1)).setCell ⟨w.heap.size, 2, none⟩ (.slice tb.a2 tb.n2 tb.c2)) := ⟨_, rfl⟩
    rw [← hX]
    have n_o : Hid (RH w6' w.heap.size #[.bool tb.b, .slice tb.a1 tb.n1 tb.c1, .slice tb.a2 tb.n2 tb.c2] 52) := by rw [hX]; exact Lib.hid ((((HR_o.out).set 0 (.bool tb.b)).set 1 (.slice tb.a1 tb.n1 tb.c1)).set 2 (.slice tb.a2 tb.n2 tb.c2))
    have n_v : Hid (RH w6' (b_u + 1) #[.bool tb.b, .slice tb.a1 tb.n1 tb.c1, .slice tb.a2 tb.n2 tb.c2] 52) := by rw [hX]; exact Lib.hid (zzo (zzo (zzo (HR_v.out) (by omega)) (by omega)) (by omega))
    have HK_ : ∀ p : Addr, p.block ≠ w.heap.size → w6'.cell? p = w5'.cell? p := fun p hp => by rw [hX]; exact (cs_other hp).trans ((cs_other hp).trans (cs_other hp))
    have n_HXb : Hid (XR w6' (y3V tb) (slQ al)) := Lib.hid (HXb.out.far HR_o.out.box (noW_all (by simp [isWord])) HK_)
    have nW : Hid (Below w.heap.size w w6') := by rw [hX]; exact Lib.hid (zzw (zzw (zzw (HW.out) (by omega)) (by omega)) (by omega))
    clear c_v_0 c_v_1 c_v_2 c_o_0 c_o_1 c_o_2 f_o_0 f_o_1 f_o_2
    clear hX HK_ HW HR_o HR_v HXb
    have HR_o := n_o; clear n_o
    have HR_v := n_v; clear n_v
    have HXb := n_HXb; clear n_HXb
    have HW := nW; clear nW
    exact bodyPost_ret (v := .agg #[.bool tb.b, .slice tb.a1 tb.n1 tb.c1, .slice tb.a2 tb.n2 tb.c2]) (results_cell_row rfl _ _ _ _ _ _ _ rfl HR_o.out Tryz.underlying52 rfl (by kernel_rfl : (Tryz.prog.info? 52).map (·.size) = some 3)) rfl ⟨_, rfl, HXb.out, HW.out⟩
end Nm
end Go.Proofs.YtlbnjgnbpiidaaaGreatDoor
