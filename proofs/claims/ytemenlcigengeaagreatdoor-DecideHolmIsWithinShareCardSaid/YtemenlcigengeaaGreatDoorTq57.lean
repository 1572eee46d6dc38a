/- A number put into a sorted row: the list, and the row of ints in memory. ranking of the reference. Printed by gen_rnk.py. Share of package decide. Printed by gen_holm.py. -/
import Derived.Test.YtemenlcigengeaaGreatDoorTq50
import Derived.Laws.CopyOwn
import Derived.Test.YtemenlcigengeaaGreatDoorTq36
import Derived.Test.YtemenlcigengeaaGreatDoorTq41
import Derived.Test.YtemenlcigengeaaGreatDoorProg
import Derived.Test.YtemenlcigengeaaGreatDoorTq00
import Derived.Test.YtemenlcigengeaaGreatDoorTq03
import Derived.Test.YtemenlcigengeaaGreatDoorTq05
import Derived.Test.YtemenlcigengeaaGreatDoorTq16
import Derived.Test.YtemenlcigengeaaGreatDoorTq06
import Derived.Test.YtemenlcigengeaaGreatDoorTq07
import Derived.Test.YtemenlcigengeaaGreatDoorTq08
import Derived.Test.YtemenlcigengeaaGreatDoorTq17
import Derived.Test.YtemenlcigengeaaGreatDoorTq18
import Derived.Test.YtemenlcigengeaaGreatDoorTq19
import Derived.Test.YtemenlcigengeaaGreatDoorTq20
import Derived.Test.YtemenlcigengeaaGreatDoorTq21
import Derived.Test.YtemenlcigengeaaGreatDoorTq54
namespace Go.Proofs.YtemenlcigengeaaGreatDoor
open Go.RowKit
namespace Nm
end Nm
namespace Nt
theorem Row.parts {w : World} {base g n cap : Nat} {M : List Nat} (h : Row w base (.slice (some ⟨g, 0, none⟩) n cap) M) : M.length = n ∧ base ≤ g ∧ ∃ cur : Array Value, w.heap[g]? = some (.cells cur 3 (0, 0)) ∧ n ≤ cap ∧ cap ≤ maxLen ∧ cur.size = cap ∧ cur.toList.take n = wcs M := by
  obtain ⟨_, ⟨h1, _⟩ | ⟨g', cap', cur, hv, hb, hg, hn, hm, hs, ht⟩⟩ := h
  · cases h1
  · cases hv
    refine ⟨rfl, hb, cur, hg, hn, hm, by simpa using hs, by simpa using ht⟩
theorem Row.make {w : World} {base g cap : Nat} {M : List Nat} {cur : Array Value} (hb : base ≤ g) (hg : w.heap[g]? = some (.cells cur 3 (0, 0))) (hn : M.length ≤ cap) (hm : cap ≤ maxLen) (hs : cur.size = cap) (ht : cur.toList.take M.length = wcs M) : Row w base (.slice (some ⟨g, 0, none⟩) M.length cap) M :=
  ⟨by rw [wcs_length, Nat.mul_one], .inr ⟨g, cap, cur, rfl, hb, hg, hn, hm, by simpa using hs, by simpa using ht⟩⟩
theorem Row.cell {w : World} {base g n cap : Nat} {M : List Nat} (h : Row w base (.slice (some ⟨g, 0, none⟩) n cap) M) {i : Nat} (hi : i < M.length) : w.cell? ⟨g, i, none⟩ = some (.int .i64 (M[i] : Int)) ∧ w.frozen? ⟨g, i, none⟩ = false := by
  obtain ⟨hl, hb, cur, hg, hn, hm, hs, ht⟩ := h.parts
  have e : cur.toList[i]? = some (.int .i64 (M[i] : Int)) := by
    rw [← wcs_get hi, ← ht, List.getElem?_take]; simp; omega
  refine ⟨?_, by simp [World.frozen?, hg]⟩
  rw [cell_of_row w g i _ _ (0, 0) hg, ← Array.getElem?_toList]; exact e
theorem Row.set {w : World} {base g n cap : Nat} {M : List Nat} (h : Row w base (.slice (some ⟨g, 0, none⟩) n cap) M) {i : Nat} (_hi : i < M.length) (x : Nat) : Row (w.setCell ⟨g, i, none⟩ (.int .i64 (x : Int))) base (.slice (some ⟨g, 0, none⟩) n cap) (M.set i x) := by
  obtain ⟨hl, hb, cur, hg, hn, hm, hs, ht⟩ := h.parts
  have hh : (w.setCell ⟨g, i, none⟩ (.int .i64 (x : Int))).heap[g]? = some (.cells (cur.setIfInBounds i (.int .i64 (x : Int))) 3 (0, 0)) := by
    simp only [World.setCell, Array.getElem?_modify, hg]; simp
  have := Row.make (w := w.setCell ⟨g, i, none⟩ (.int .i64 (x : Int))) (M := M.set i x) hb hh (by simpa [hl] using hn) hm (by simpa using hs) (by
    rw [List.length_set, hl, Array.toList_setIfInBounds, List.take_set, ht]
    simp [wcs, List.map_set, wc])
  rw [List.length_set, hl] at this
  exact this
end Nt
end Go.Proofs.YtemenlcigengeaaGreatDoor
namespace Go.Proofs.YtemenlcigengeaaGreatDoor
open Go.RowKit
namespace Nm
/-- the texts of an evidence that is right, in memory -/
theorem rt_elem {l : List RT} (h : aF l = 0) {a : Option Addr} {c : Nat} {w : World} (hs : Sl w (.slice a l.length c) l.length (l.flatMap rtL)) {i : Nat} (hi : i < l.length) :
    ∃ pb po, a = some ⟨pb, po, none⟩ ∧ w.cell? ⟨pb, po + i * 2, none⟩ = some (.string (showN (vL l i))) ∧ w.cell? ⟨pb, po + i * 2 + 1, none⟩ = some (.string (showD (vL l i))) := by
  have hg := List.getElem?_eq_getElem hi
  obtain ⟨pb, po, hp, hc⟩ := hs.elem (f := rtL) (fun _ => rfl) (by omega : 0 < 2) hg
  have h1 := part_ln h (List.getElem_mem hi)
  have c0 := hc 0 _ rfl
  have c1 := hc 1 _ rfl
  refine ⟨pb, po, hp, ?_, ?_⟩
  · rw [vL_at hg, ← h1.2.2.2.2.1]; exact c0
  · rw [vL_at hg, ← h1.2.2.2.2.2]; exact c1
theorem vL_fits {l : List RT} (h : aF l = 0) {i : Nat} (hi : i < l.length) : Fits (vL l i) := by
  rw [vL_at (List.getElem?_eq_getElem hi)]
  exact (part_ln h (List.getElem_mem hi)).2.2.2.1
end Nm
namespace Nt
open _root_.Go.Proofs.YtemenlcigengeaaGreatDoor.Nm (RT rtL rtOk aF vL vL_fits rt_elem Rk Fits showN showD)
end Nt
end Go.Proofs.YtemenlcigengeaaGreatDoor
namespace Go.Proofs.YtemenlcigengeaaGreatDoor
open Go.RowKit
namespace Nm
set_option maxRecDepth 100000 in
set_option maxHeartbeats 8000000 in
theorem share_at (l : List RT) (hok : ∀ r ∈ l, rtOk r) (a : Option Addr) (c : Nat) (n d : ByteArray) (hn : n.size ≤ maxLen) (hd : d.size ≤ maxLen) (w : World) (hs : Sl w (.slice a l.length c) l.length (l.flatMap rtL)) : Calls Tryz.prog 21 #[.slice a l.length c, .agg #[.string n, .string d]] w (RowsPost w (rkF l n d) (shareB (vL l) (rQ n d)⁻¹ l.length)) := by
  have HS := Lib.hid hs
  have HOK := Lib.hid hok
  have HND := Lib.hid (And.intro hn hd)
  clear hs hok hn hd
  go_enter Tryz.func21, Tryz.ntmps21
  go_upto_region 1 with (fail)
  refine wp_box1 fun w1' hsz hbW hA0 => ?_
  clear hsz
  have HB_m := Lib.hid hA0
  have HW := Lib.hid hbW
  clear hbW hA0
  have c_m_0 : w1'.cell? ⟨w.heap.size, 0, none⟩ = some (.string n) := HB_m.out.2 0
  have c_m_1 : w1'.cell? ⟨w.heap.size, 1, none⟩ = some (.string d) := HB_m.out.2 1
  go_wp2_with fail
  refine (ranked_at l HOK.out a c n d HND.out.1 HND.out.2 w1' (HS.out.ext HW.out)).mono ?_
  rintro e w2' ⟨a3, c3, xs, a4, n4, c4, t, rfl, hx9, hbz⟩
  have HX9 := Lib.hid hx9
  clear hx9
  obtain ⟨tb, ta1, tn1, tc1, ta2, tn2, tc2⟩ := t
  rw [show y3V ⟨tb, ta1, tn1, tc1, ta2, tn2, tc2⟩ = .agg #[.bool tb, .slice ta1 tn1 tc1, .slice ta2 tn2 tc2] from rfl]
  replace HB_m := Lib.hid (HB_m.out.ext hbz)
  replace HW := Lib.hid (ext_trans HW.out hbz)
  clear c_m_0 c_m_1
  clear hbz
  go_upto_region 2 with (fail)
  refine wp_box1 fun w3' hsz hbz hC => ?_
  clear hsz
  have lt_m_need : w.heap.size < w2'.heap.size := HB_m.out.1
  have le_need : w.heap.size ≤ w2'.heap.size := HW.out.size
  replace HB_m := Lib.hid (HB_m.out.ext hbz)
  replace HX9 := Lib.hid (HX9.out.ext hbz)
  replace HW := Lib.hid (ext_trans HW.out hbz)
  clear hbz
  have HB_need := Lib.hid hC
  clear hC
  generalize w2'.heap.size = b_need at *
  by_cases hf : rkF l n d = 0
  · have hne : (rkF l n d != 0) = false := by simp [hf]
    have HV := Lib.hid hf
    obtain ⟨rfl, hrk⟩ := HX9.out hf
    have HRK := Lib.hid hrk
    have hp9 := rk_parts hf
    have HAF : Hid (aF l = 0) := Lib.hid hp9.2.1
    have HMI := Lib.hid (miss_ln hp9.2.2)
    obtain ⟨⟨hl1, hl10⟩, _⟩ := hp9
    clear hf HX9 hrk
    obtain ⟨P, hP⟩ : ∃ P, rankP (vL l) l.length = P := ⟨_, rfl⟩
    have HPK : Hid (Rk (vL l) l.length P) := Lib.hid (by rw [← hP]; exact rankP_rk _ _)
    have HPS : Hid (Sl w3' (.slice a4 l.length c4) l.length (Nt.wcs P)) := Lib.hid (by rw [← hP]; exact HRK.out.sl)
    have HXS := Lib.hid HRK.out.xs
    have HXR := Lib.hid HRK.out.nd
    have HPL := Lib.hid HPK.out.len
    clear hP HRK
    have HLI : Hid (Ln 100 100 (rQ n d)⁻¹ ∧ 0 < (rQ n d)⁻¹) := Lib.hid ⟨HMI.out.2.1.inv (Rat.ne_of_gt HMI.out.1), Rat.inv_pos.2 HMI.out.1⟩
    generalize (rQ n d)⁻¹ = q at *
    obtain ⟨pb4, po4, rfl, _⟩ := sl_addr HPS.out (Nt.wcs_get (show 0 < P.length by rw [HPL.out]; exact hl1))
    have hcap := (sl_caps HPS.out).1
    have HPS0 := HPS
    go_wp2_with (refine wpList_make_bools rfl _ _ rfl l.length rfl rfl rfl (by omega) ?_; intro w4' hO hbz hsz)
    have HBL : Hid (Below w3'.heap.size w3' w4') := Lib.hid hbz
    have HO : Hid (OwnZ w4' w3'.heap.size (bitL l.length [])) := Lib.hid (by rw [bitL_nil]; exact hO)
    clear hO hbz hsz
    go_wp2
    go_loopw [11, 12, 13, 32] (fun s _ _ i wr => ∃ k N : Nat, k ≤ l.length ∧ N ≤ k ∧ s = .int .i64 (N : Int) ∧ i = .int .i64 (k : Int) ∧ Hid (shN (vL l) (sTh l.length q) P 0 0 = shN (vL l) (sTh l.length q) (P.drop k) k N) ∧ Hid (OwnZ wr w3'.heap.size (bitL l.length [])) ∧ Hid (Below w3'.heap.size w3' wr)) (fun _ _ _ i _ => l.length - (intOf i).toNat)
    case atStart => exact ⟨0, 0, by omega, by omega, rfl, rfl, rfl, HO, HBL⟩
    case round =>
      clear HO HBL
      obtain ⟨k, N, hk, hN, rfl, rfl, HJ, HO, HBL⟩ := hrel
      generalize hX : wr = X at *
      clear hX
      by_cases hlt : k < l.length
      · have hkP : k < P.length := by rw [HPL.out]; exact hlt
        have hgP := Nt.wcs_get hkP
        have HIN : Hid (P[k] < l.length) := Lib.hid (HPK.out.mem.1 (List.getElem_mem hkP))
        have HST := Lib.hid (shN_step (v := vL l) (D := (sTh l.length q)) (N := N) hkP)
        have HTK := Lib.hid (take_snoc_at hkP)
        generalize P[k] = i at *
        have hin := HIN.out
        obtain ⟨pb5, po5, hp5, hc4⟩ := sl_addr HPS.out hgP
        cases hp5
        have c_p : X.cell? ⟨pb4, po4 + k, none⟩ = some (.int .i64 (i : Int)) := (HBL.out.cell (World.block_lt_of_cell? _ _ hc4)).trans hc4
        clear hc4 hgP
        have hlx : i < xs.length := by rw [HXS.out.len]; exact hin
        obtain ⟨tx, htx⟩ : ∃ t, xs[i]? = some t := ⟨_, List.getElem?_eq_getElem hlx⟩
        obtain ⟨rx, hrx⟩ : ∃ r, l[i]? = some r := ⟨_, List.getElem?_eq_getElem hin⟩
        have HXI : Hid (XR X (y3V tx) (vL l i)) := Lib.hid (by rw [vL_at hrx]; exact (HXS.out.ok i tx rx htx hrx).ext HBL.out)
        obtain ⟨pb, po, hp9, hcx⟩ := HXS.out.sl.elem (f := y3L) (fun _ => rfl) (by omega : 0 < 3) htx
        subst hp9
        obtain ⟨xb, xa1, xn1, xc1, xa2, xn2, xc2⟩ := tx
        have c_x_0 : X.cell? ⟨pb, po + i * 3, none⟩ = some (.bool xb) := by have h := hcx 0 _ rfl; exact (HBL.out.cell (World.block_lt_of_cell? _ _ h)).trans h
        have c_x_1 : X.cell? ⟨pb, po + i * 3 + 1, none⟩ = some (.slice xa1 xn1 xc1) := by have h := hcx 1 _ rfl; exact (HBL.out.cell (World.block_lt_of_cell? _ _ h)).trans h
        have c_x_2 : X.cell? ⟨pb, po + i * 3 + 2, none⟩ = some (.slice xa2 xn2 xc2) := by have h := hcx 2 _ rfl; exact (HBL.out.cell (World.block_lt_of_cell? _ _ h)).trans h
        have HVL := Lib.hid (vL_ln HAF.out hin)
        have hvs := HVL.out.2.small (by omega) (by omega)
        have hqs := HLI.out.1.small (by omega) (by omega)
        have hi0 : (0 : Int) ≤ (i : Int) := Int.natCast_nonneg _
        have hi1 : (i : Int) < (xs.length : Int) := by omega
        have hi2 : (i : Int) < (l.length : Int) := by omega
        have hi3 : (i : Int).toNat = i := by omega
        have hk0 : (0 : Int) ≤ (k : Int) := Int.natCast_nonneg _
        have hk1 : (k : Int) < (l.length : Int) := by omega
        have hk3 : (k : Int).toNat = k := by omega
        clear hcx htx hrx hlx hkP
        have HXQ : Hid (XR X (y3V ⟨tb, ta1, tn1, tc1, ta2, tn2, tc2⟩) q) := Lib.hid (HXR.out.ext HBL.out)
        have HBN : Hid (Box X b_need #[.bool tb, .slice ta1 tn1 tc1, .slice ta2 tn2 tc2]) := Lib.hid (HB_need.out.ext HBL.out)
        have c_need_0 : X.cell? ⟨b_need, 0, none⟩ = some (.bool tb) := HBN.out.2 0
        have c_need_1 : X.cell? ⟨b_need, 1, none⟩ = some (.slice ta1 tn1 tc1) := HBN.out.2 1
        have c_need_2 : X.cell? ⟨b_need, 2, none⟩ = some (.slice ta2 tn2 tc2) := HBN.out.2 2
        go_upto_region 9 with (fail)
        obtain ⟨q1, hq1⟩ : ∃ x : Rat, (((k : Int) + 1 : Int) : Rat) = x := ⟨_, rfl⟩
        obtain ⟨q2, hq2⟩ : ∃ x : Rat, ((l.length : Int) : Rat) = x := ⟨_, rfl⟩
        obtain ⟨m, hm⟩ : ∃ x, vL l i * q1 = x := ⟨_, rfl⟩
        obtain ⟨d2, hd2⟩ : ∃ x, q2 * q = x := ⟨_, rfl⟩
        obtain ⟨z, hz⟩ : ∃ x, cmpQ m d2 = x := ⟨_, rfl⟩
        have HEQ := Lib.hid (And.intro hq1 (And.intro hq2 (And.intro hm (And.intro hd2 hz))))
        have HL1 : Hid (Ln 2 0 q1) := Lib.hid (by rw [← hq1]; exact Ln.int (by omega))
        have HL2 : Hid (Ln 2 0 q2) := Lib.hid (by rw [← hq2]; exact Ln.int (by omega))
        have HLM : Hid (Ln 102 100 m) := Lib.hid (by rw [← hm]; exact HVL.out.2.mul HL1.out)
        have HLD : Hid (Ln 102 100 d2) := Lib.hid (by rw [← hd2]; exact HL2.out.mul HLI.out.1)
        have h1s := HL1.out.small (by omega) (by omega)
        have h2s := HL2.out.small (by omega) (by omega)
        have hms := HLM.out.small (by omega) (by omega)
        have hds := HLD.out.small (by omega) (by omega)
        have HCM : Hid ((sTh l.length q) ≤ vL l i * ((k + 1 : Nat) : Rat) ↔ 0 ≤ z) := Lib.hid (by rw [← hz, cmpQ_ge, ← hd2, ← hm, ← hq2, ← hq1]; unfold sTh; rw [show ((k : Int) + 1) = ((k + 1 : Nat) : Int) by omega, Rat.intCast_natCast, Rat.intCast_natCast])
        have hwr : IntKind.i64.wrap ((k : Int) + 1) = (k : Int) + 1 := by rw [IntKind.wrap_i64]; omega
        have hsb : w3'.heap.size ≤ X.heap.size := HBL.out.size
        clear hq1 hq2 hm hd2 hz
        refine Grow.wp_region_grow 15 [TP.eq (.slice (some ⟨pb, po, none⟩) xs.length c3), TP.eq (.int .i64 (i : Int)), TP.eq (.pointer (some ⟨pb, po + i * 3, none⟩)), TP.eq (.agg #[.bool xb, .slice xa1 xn1 xc1, .slice xa2 xn2 xc2]), TP.eq (.int .i64 (k : Int)), TP.eq (.int .i64 ((k : Int) + 1)), TPx q1, TPx m, TP.eq (.slice a l.length c), TP.eq (.int .i64 (l.length : Int)), TPx q2, TP.eq (.agg #[.bool tb, .slice ta1 tn1 tc1, .slice ta2 tn2 tc2]), TPx d2, TP.eq (.int .i64 z), TP.eq (.bool (decide (0 ≤ z)))] [[], [], [0, 1], [2], [], [4], [5], [3, 6], [], [8], [9], [], [10, 11], [7, 12], [13]] (by kernel_rfl) (by kernel_rfl) ⟨?o0sh, ?o1sh, ?o2sh, ?o3sh, ?o4sh, ?o5sh, ?o6sh, ?o7sh, ?o8sh, ?o9sh, ?o10sh, ?o11sh, ?o12sh, ?o13sh, ?o14sh, trivial⟩ ?_
        case o0sh =>
          intro w' hb
          show wpList _ _ _ _ _ _
          go_wp2
          exact ⟨rfl, Below.refl _ _, rfl⟩
        case o1sh =>
          intro w' hb
          show wpList _ _ _ _ _ _
          go_wp2
          exact ⟨rfl, Below.refl _ _, rfl⟩
        case o2sh =>
          intro w' hb v1 hv1 v2 hv2
          obtain rfl : v1 = _ := hv1
          obtain rfl : v2 = _ := hv2
          show wpList _ _ _ _ _ _
          simp only [Grow.dstOf, List.getElem?_toArray, List.getElem?_cons_succ, List.getElem?_cons_zero, Option.bind_some, Act.put, List.setIfInBounds_toArray, List.set_cons_succ, List.set_cons_zero]
          go_wp2
          exact ⟨rfl, Below.refl _ _, rfl⟩
        case o3sh =>
          intro w' hb v1 hv1
          obtain rfl : v1 = _ := hv1
          have c_x_0' : w'.cell? ⟨pb, po + i * 3, none⟩ = some (.bool xb) := (hb.cell (World.block_lt_of_cell? _ _ c_x_0)).trans c_x_0
          have c_x_1' : w'.cell? ⟨pb, po + i * 3 + 1, none⟩ = some (.slice xa1 xn1 xc1) := (hb.cell (World.block_lt_of_cell? _ _ c_x_1)).trans c_x_1
          have c_x_2' : w'.cell? ⟨pb, po + i * 3 + 2, none⟩ = some (.slice xa2 xn2 xc2) := (hb.cell (World.block_lt_of_cell? _ _ c_x_2)).trans c_x_2
          show wpList _ _ _ _ _ _
          simp only [Grow.dstOf, List.getElem?_toArray, List.getElem?_cons_succ, List.getElem?_cons_zero, Option.bind_some, Act.put, List.setIfInBounds_toArray, List.set_cons_succ, List.set_cons_zero]
          go_wp2
          exact ⟨rfl, Below.refl _ _, rfl⟩
        case o4sh =>
          intro w' hb
          show wpList _ _ _ _ _ _
          go_wp2
          exact ⟨rfl, Below.refl _ _, rfl⟩
        case o5sh =>
          intro w' hb v1 hv1
          obtain rfl : v1 = _ := hv1
          show wpList _ _ _ _ _ _
          simp only [Grow.dstOf, List.getElem?_toArray, List.getElem?_cons_succ, List.getElem?_cons_zero, Option.bind_some, Act.put, List.setIfInBounds_toArray, List.set_cons_succ, List.set_cons_zero]
          go_wp2
          exact ⟨rfl, Below.refl _ _, rfl⟩
        case o6sh =>
          intro w' hb v1 hv1
          obtain rfl : v1 = _ := hv1
          show wpList _ _ _ _ _ _
          simp only [Grow.dstOf, List.getElem?_toArray, List.getElem?_cons_succ, List.getElem?_cons_zero, Option.bind_some, Act.put, List.setIfInBounds_toArray, List.set_cons_succ, List.set_cons_zero]
          go_wp2_with fail
          refine (whole_q ((k : Int) + 1) q1 HEQ.out.1 (by omega) (by omega) w').mono ?_
          rintro e wz ⟨vz, rfl, hxz, hbz⟩
          go_wp2
          exact ⟨hxz, hbz, rfl⟩
        case o7sh =>
          intro w' hb v1 hv1 v2 hv2
          obtain rfl : v1 = _ := hv1
          have hv2' : XR w' v2 q1 := hv2
          clear hv2
          obtain ⟨o21, l21, o22, l22, rfl, _, _⟩ := hv2'.open_
          show wpList _ _ _ _ _ _
          simp only [Grow.dstOf, List.getElem?_toArray, List.getElem?_cons_succ, List.getElem?_cons_zero, Option.bind_some, Act.put, List.setIfInBounds_toArray, List.set_cons_succ, List.set_cons_zero]
          go_wp2_with fail
          refine (xtimes_is (vL l i) q1 m HEQ.out.2.2.1 _ _ w' (HXI.out.ext hb) hv2' (by omega) (by omega) (by omega) (by omega)).mono ?_
          rintro e wz ⟨vz, rfl, hxz, hbz⟩
          go_wp2
          exact ⟨hxz, hbz, rfl⟩
        case o8sh =>
          intro w' hb
          show wpList _ _ _ _ _ _
          go_wp2
          exact ⟨rfl, Below.refl _ _, rfl⟩
        case o9sh =>
          intro w' hb v1 hv1
          obtain rfl : v1 = _ := hv1
          show wpList _ _ _ _ _ _
          simp only [Grow.dstOf, List.getElem?_toArray, List.getElem?_cons_succ, List.getElem?_cons_zero, Option.bind_some, Act.put, List.setIfInBounds_toArray, List.set_cons_succ, List.set_cons_zero]
          go_wp2
          exact ⟨rfl, Below.refl _ _, rfl⟩
        case o10sh =>
          intro w' hb v1 hv1
          obtain rfl : v1 = _ := hv1
          show wpList _ _ _ _ _ _
          simp only [Grow.dstOf, List.getElem?_toArray, List.getElem?_cons_succ, List.getElem?_cons_zero, Option.bind_some, Act.put, List.setIfInBounds_toArray, List.set_cons_succ, List.set_cons_zero]
          go_wp2_with fail
          refine (whole_q (l.length : Int) q2 HEQ.out.2.1 (by omega) (by omega) w').mono ?_
          rintro e wz ⟨vz, rfl, hxz, hbz⟩
          go_wp2
          exact ⟨hxz, hbz, rfl⟩
        case o11sh =>
          intro w' hb
          have c_need_0' : w'.cell? ⟨b_need, 0, none⟩ = some (.bool tb) := (hb.cell (World.block_lt_of_cell? _ _ c_need_0)).trans c_need_0
          have c_need_1' : w'.cell? ⟨b_need, 1, none⟩ = some (.slice ta1 tn1 tc1) := (hb.cell (World.block_lt_of_cell? _ _ c_need_1)).trans c_need_1
          have c_need_2' : w'.cell? ⟨b_need, 2, none⟩ = some (.slice ta2 tn2 tc2) := (hb.cell (World.block_lt_of_cell? _ _ c_need_2)).trans c_need_2
          show wpList _ _ _ _ _ _
          go_wp2
          exact ⟨rfl, Below.refl _ _, rfl⟩
        case o12sh =>
          intro w' hb v1 hv1 v2 hv2
          have hv1' : XR w' v1 q2 := hv1
          clear hv1
          obtain rfl : v2 = _ := hv2
          obtain ⟨o11, l11, o12, l12, rfl, _, _⟩ := hv1'.open_
          show wpList _ _ _ _ _ _
          simp only [Grow.dstOf, List.getElem?_toArray, List.getElem?_cons_succ, List.getElem?_cons_zero, Option.bind_some, Act.put, List.setIfInBounds_toArray, List.set_cons_succ, List.set_cons_zero]
          go_wp2_with fail
          refine (xtimes_is q2 q d2 HEQ.out.2.2.2.1 _ _ w' hv1' (HXQ.out.ext hb) (by omega) (by omega) (by omega) (by omega)).mono ?_
          rintro e wz ⟨vz, rfl, hxz, hbz⟩
          go_wp2
          exact ⟨hxz, hbz, rfl⟩
        case o13sh =>
          intro w' hb v1 hv1 v2 hv2
          have hv1' : XR w' v1 m := hv1
          clear hv1
          have hv2' : XR w' v2 d2 := hv2
          clear hv2
          obtain ⟨o11, l11, o12, l12, rfl, _, _⟩ := hv1'.open_
          obtain ⟨o21, l21, o22, l22, rfl, _, _⟩ := hv2'.open_
          show wpList _ _ _ _ _ _
          simp only [Grow.dstOf, List.getElem?_toArray, List.getElem?_cons_succ, List.getElem?_cons_zero, Option.bind_some, Act.put, List.setIfInBounds_toArray, List.set_cons_succ, List.set_cons_zero]
          go_wp2_with fail
          refine (xcmp_is m d2 z HEQ.out.2.2.2.2 _ _ w' hv1' hv2' (by omega) (by omega) (by omega) (by omega)).mono ?_
          rintro e wz ⟨rfl, hbz⟩
          go_wp2
          exact ⟨rfl, hbz, rfl⟩
        case o14sh =>
          intro w' hb v1 hv1
          obtain rfl : v1 = _ := hv1
          show wpList _ _ _ _ _ _
          simp only [Grow.dstOf, List.getElem?_toArray, List.getElem?_cons_succ, List.getElem?_cons_zero, Option.bind_some, Act.put, List.setIfInBounds_toArray, List.set_cons_succ, List.set_cons_zero]
          go_wp2
          exact ⟨rfl, Below.refl _ _, rfl⟩
        intro Y hbz u0 hu0 u1 hu1 u2 hu2 u3 hu3 u4 hu4 u5 hu5 u6 hu6 u7 hu7 u8 hu8 u9 hu9 u10 hu10 u11 hu11 u12 hu12 u13 hu13 u14 hu14
        obtain rfl : u14 = _ := hu14
        clear hu0 hu1 hu2 hu3 hu4 hu5 hu6 hu7 hu8 hu9 hu10 hu11 hu12 hu13
        replace HO := Lib.hid (HO.out.ext hbz)
        replace HBL := Lib.hid (HBL.out.trans (hbz.mono hsb))
        clear hbz h1s h2s hms hds hvs hqs c_x_0 c_x_1 c_x_2 c_need_0 c_need_1 c_need_2 c_p
        refine tail_none (P := Tryz.prog) (ops := #[]) ?_
        simp only [Act.put, List.setIfInBounds_toArray, List.set_cons_succ, List.set_cons_zero]
        by_cases hzz : 0 ≤ z
        · replace HJ := Lib.hid (HJ.out.trans HST.out)
          rw [if_pos (HCM.out.2 hzz)] at HJ
          go_wp2
          go_roundw
          case rel => exact ⟨k + 1, k + 1, by omega, by omega, by go_num, by go_num, HJ, HO, HBL⟩
          case measure => simp [intOf]; omega
        · replace HJ := Lib.hid (HJ.out.trans HST.out)
          rw [if_neg (fun h => hzz (HCM.out.1 h))] at HJ
          go_wp2
          go_roundw
          case rel => exact ⟨k + 1, N, by omega, by omega, rfl, by go_num, HJ, HO, HBL⟩
          case measure => simp [intOf]; omega
      · have hkl : k = l.length := by omega
        have HJ9 : Hid (shN (vL l) (sTh l.length q) P 0 0 = N) := Lib.hid (by rw [HJ.out, List.drop_of_length_le (by rw [HPL.out]; omega)]; rfl)
        have hN0 : (0 : Int) ≤ (N : Int) := Int.natCast_nonneg _
        have hNc : (N : Int) ≤ (c4 : Int) := by omega
        have hNl : N ≤ l.length := by omega
        clear hkl HJ
        go_wp2
        go_loopw [15, 59] (fun _ i wr => ∃ j : Nat, j ≤ N ∧ i = .int .i64 (j : Int) ∧ Hid (OwnZ wr w3'.heap.size (bitL l.length (P.take j))) ∧ Hid (Below w3'.heap.size w3' wr)) (fun _ i _ => N - (intOf i).toNat)
        case atStart => exact ⟨0, by omega, rfl, HO, HBL⟩
        case round =>
          clear HO HBL
          obtain ⟨j, hj, rfl, HO, HBL⟩ := hrel
          generalize hX : wr = X2 at *
          clear hX
          by_cases hlt2 : j < N
          · have hkP : j < P.length := by rw [HPL.out]; omega
            have hgP := Nt.wcs_get hkP
            have HIN : Hid (P[j] < l.length) := Lib.hid (HPK.out.mem.1 (List.getElem_mem hkP))
            have HTK := Lib.hid (take_snoc_at hkP)
            generalize P[j] = i at *
            have hin := HIN.out
            obtain ⟨pb5, po5, hp5, hc4⟩ := sl_addr HPS.out hgP
            cases hp5
            have c_p : X2.cell? ⟨pb4, po4 + j, none⟩ = some (.int .i64 (i : Int)) := (HBL.out.cell (World.block_lt_of_cell? _ _ hc4)).trans hc4
            clear hc4 hgP hkP
            have hi0 : (0 : Int) ≤ (i : Int) := Int.natCast_nonneg _
            have hi2 : (i : Int) < (l.length : Int) := by omega
            have hi3 : (i : Int).toNat = i := by omega
            have hk0 : (0 : Int) ≤ (j : Int) := Int.natCast_nonneg _
            have hk1 : (j : Int) < (N : Int) := by omega
            have hk3 : (j : Int).toNat = j := by omega
            have HO9 : Hid (OwnZ (X2.setCell ⟨w3'.heap.size, i, none⟩ (.bool true)) w3'.heap.size (bitL l.length (P.take (j + 1)))) := Lib.hid (by have h := HO.out.set (i := i) (by rw [bitL_len]; exact HIN.out) true; rw [bitL_set HIN.out, ← HTK.out] at h; exact h)
            have HB9 : Hid (Below w3'.heap.size w3' (X2.setCell ⟨w3'.heap.size, i, none⟩ (.bool true))) := Lib.hid (HBL.out.setCell (p := ⟨w3'.heap.size, i, none⟩) (Nat.le_refl _) _)
            have c_o := HO.out.cell (i := i) (by rw [bitL_len]; exact HIN.out)
            have f_o : X2.frozen? ⟨w3'.heap.size, i, none⟩ = false := HO.out.frozen i
            go_wp2
            go_roundw
            case rel => exact ⟨j + 1, by omega, by go_num, HO9, HB9⟩
            case measure => simp [intOf]; omega
          · have hjN : j = N := by omega
            have HL9 : Hid (shareB (vL l) q l.length = bitL l.length (P.take j)) := Lib.hid (by rw [hjN, ← bit_share HPK.out (fun k hk => (vL_ln HAF.out hk).1), HJ9.out])
            have HWZ : Hid (Below w.heap.size w X2) := Lib.hid (ext_trans HW.out HBL.out)
            clear hjN
            go_wp2
            exact bodyPost_ret (v := .tuple #[.slice (some ⟨w3'.heap.size, 0, none⟩) l.length l.length, .int .i64 0]) (by simp [results, Tryz.results21, go_sem]) rfl ⟨_, l.length, _, by rw [HV.out], by rw [HV.out, HL9.out]; have h := RowIf.good (c := l.length) HO.out (by rw [bitL_len]; exact Nat.le_refl _) (by unfold maxLen; omega); rw [bitL_len] at h; exact h, HWZ.out⟩
  · have hne : (rkF l n d != 0) = true := by simp [hf]
    have HNE := Lib.hid hf
    clear hf
    go_wp2
    exact bodyPost_ret (v := .tuple #[.slice none 0 0, .int .i64 (rkF l n d)]) (by simp [results, Tryz.results21, go_sem]) rfl ⟨none, 0, 0, rfl, RowIf.bad HNE.out, HW.out⟩
end Nm
end Go.Proofs.YtemenlcigengeaaGreatDoor
