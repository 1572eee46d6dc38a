/- The walk of the law of Holm within the share: for all evidences and misses it returns true, where the table of strconv lies. Printed by gen_lawholm.py. -/
import Derived.Test.YtemenlcigengeaaGreatDoorTq62
import Derived.Test.YtemenlcigengeaaGreatDoorTq00
import Derived.Test.YtemenlcigengeaaGreatDoorTq41
import Derived.Test.YtemenlcigengeaaGreatDoorTq02
import Derived.Test.YtemenlcigengeaaGreatDoorTq03
import Derived.Test.YtemenlcigengeaaGreatDoorTq16
import Derived.Test.YtemenlcigengeaaGreatDoorProg
import Derived.Test.YtemenlcigengeaaGreatDoorTq05
import Derived.Test.YtemenlcigengeaaGreatDoorTq06
import Derived.Test.YtemenlcigengeaaGreatDoorTq07
import Derived.Test.YtemenlcigengeaaGreatDoorTq08
import Derived.Test.YtemenlcigengeaaGreatDoorTq17
import Derived.Test.YtemenlcigengeaaGreatDoorTq18
import Derived.Test.YtemenlcigengeaaGreatDoorTq19
import Derived.Test.YtemenlcigengeaaGreatDoorTq23
import Derived.Test.YtemenlcigengeaaGreatDoorTq24
import Derived.Test.YtemenlcigengeaaGreatDoorTq25
import Derived.Test.YtemenlcigengeaaGreatDoorTq26
import Derived.Test.YtemenlcigengeaaGreatDoorTq27
import Derived.Test.YtemenlcigengeaaGreatDoorTq28
import Derived.Test.YtemenlcigengeaaGreatDoorTq29
import Derived.Test.YtemenlcigengeaaGreatDoorShelf
import Derived.Test.YtemenlcigengeaaGreatDoorTq30
import Derived.Test.YtemenlcigengeaaGreatDoorTq20
import Derived.Test.YtemenlcigengeaaGreatDoorTq31
import Derived.Test.YtemenlcigengeaaGreatDoorTq32
import Derived.Test.YtemenlcigengeaaGreatDoorTq33
import Derived.Test.YtemenlcigengeaaGreatDoorTq34
import Derived.Test.YtemenlcigengeaaGreatDoorTq35
import Derived.Test.YtemenlcigengeaaGreatDoorTq36
import Derived.Test.YtemenlcigengeaaGreatDoorTq21
import Derived.Test.YtemenlcigengeaaGreatDoorTq42
import Derived.Test.YtemenlcigengeaaGreatDoorTq43
import Derived.Test.YtemenlcigengeaaGreatDoorTq50
import Derived.Test.YtemenlcigengeaaGreatDoorTq51
import Derived.Test.YtemenlcigengeaaGreatDoorTq53
import Derived.Test.YtemenlcigengeaaGreatDoorTq54
import Derived.Test.YtemenlcigengeaaGreatDoorTq57
import Derived.Test.YtemenlcigengeaaGreatDoorTq63
namespace Go.Proofs.YtemenlcigengeaaGreatDoor.lawHis
open Go.RowKit _root_.Go.Proofs.YtemenlcigengeaaGreatDoor.Nm
open _root_.Go.Proofs.YtemenlcigengeaaGreatDoor.Nt (Tab Tab.ext less_is whole0 GrownOf Calls.grows)
set_option maxRecDepth 100000 in
set_option maxHeartbeats 16000000 in
theorem walk (l : List RT) (hok : ∀ r ∈ l, rtOk r) (a : Option Addr) (c : Nat) (n d : ByteArray) (hn : n.size ≤ maxLen) (hd : d.size ≤ maxLen) (w : World) (hs : Sl w (.slice a l.length c) l.length (l.flatMap rtL)) (ht : Tab w) :
    Calls Tryz.prog 5 #[.slice a l.length c, .agg #[.string n, .string d]] w fun e w' => e = .returned (.bool true) ∧ Below w.heap.size w w' := by
  obtain ⟨rf, hrf⟩ : ∃ z, rkF l n d = z := ⟨_, rfl⟩
  have H_rf := Lib.hid hrf
  clear hrf
  obtain ⟨LH, hLH⟩ : ∃ z, holmB (vL l) (rQ n d)⁻¹ l.length = z := ⟨_, rfl⟩
  have H_LH := Lib.hid hLH
  clear hLH
  obtain ⟨LS, hLS⟩ : ∃ z, shareB (vL l) (rQ n d)⁻¹ l.length = z := ⟨_, rfl⟩
  have H_LS := Lib.hid hLS
  clear hLS
  have HLH : Hid (LH.length = l.length) := Lib.hid (by rw [← H_LH.out]; exact holmB_len _ _ _)
  have HLS : Hid (LS.length = l.length) := Lib.hid (by rw [← H_LS.out]; exact shareB_len _ _ _)
  have H := Lib.hid (And.intro hok (And.intro (And.intro hn hd) hs))
  clear hok hn hd hs
  go_enter Tryz.func5, Tryz.ntmps5
  have HT0 := Lib.hid ht
  clear ht
  go_upto_region 1 with (fail)
  refine wp_box1 fun w1' hsz hbW hA0 => ?_
  clear hsz
  have HB_p := Lib.hid hA0
  have HW := Lib.hid hbW
  clear hbW hA0
  go_wp2_with fail
  refine (awake_at w1').mono ?_
  rintro e w2' ⟨rfl, hbz⟩
  replace HB_p := Lib.hid (HB_p.out.ext hbz)
  replace HW := Lib.hid (ext_trans HW.out hbz)
  clear hbz
  have c_p_0 : w2'.cell? ⟨w.heap.size, 0, none⟩ = some (.string n) := HB_p.out.2 0
  have c_p_1 : w2'.cell? ⟨w.heap.size, 1, none⟩ = some (.string d) := HB_p.out.2 1
  go_wp2_with fail
  refine ((by have h := holm_at l H.out.1 a c n d H.out.2.1.1 H.out.2.1.2 w2' (H.out.2.2.ext HW.out); rw [H_rf.out, H_LH.out] at h; exact h : Calls _ _ _ w2' (RowsPost w2' rf LH))).mono ?_
  rintro e w3' ⟨xa, xn, xc, rfl, hx, hbz⟩
  have R_x := Lib.hid hx
  clear hx
  replace HB_p := Lib.hid (HB_p.out.ext hbz)
  replace HW := Lib.hid (ext_trans HW.out hbz)
  clear c_p_0 c_p_1
  clear hbz
  have c_p_0 : w3'.cell? ⟨w.heap.size, 0, none⟩ = some (.string n) := HB_p.out.2 0
  have c_p_1 : w3'.cell? ⟨w.heap.size, 1, none⟩ = some (.string d) := HB_p.out.2 1
  go_wp2_with fail
  refine ((by have h := share_at l H.out.1 a c n d H.out.2.1.1 H.out.2.1.2 w3' (H.out.2.2.ext HW.out); rw [H_rf.out, H_LS.out] at h; exact h : Calls _ _ _ w3' (RowsPost w3' rf LS))).mono ?_
  rintro e w4' ⟨ya, yn, yc, rfl, hy, hbz⟩
  have R_y := Lib.hid hy
  clear hy
  replace HB_p := Lib.hid (HB_p.out.ext hbz)
  replace R_x := Lib.hid (R_x.out.ext hbz)
  replace HW := Lib.hid (ext_trans HW.out hbz)
  clear c_p_0 c_p_1
  clear hbz
  by_cases hf : rf = 0
  · have hne : (rf != 0) = false := by simp [hf]
    have hp9 := rk_parts (H_rf.out.trans hf)
    have HAF : Hid (aF l = 0) := Lib.hid hp9.2.1
    have HMI := Lib.hid (miss_ln hp9.2.2)
    have HMF := Lib.hid hp9.2.2
    have HRF0 := Lib.hid (H_rf.out.trans hf)
    obtain ⟨⟨hl1, hl10⟩, _⟩ := hp9
    obtain ⟨hn9, hs9⟩ := R_x.out.1 hf
    rw [HLH.out] at hn9
    subst hn9
    obtain ⟨xb, xo, rfl, _⟩ := sl_addr hs9 (bcs_at (i := 0) (by rw [HLH.out]; exact hl1))
    have S_x := Lib.hid hs9
    clear hs9
    obtain ⟨hn9, hs9⟩ := R_y.out.1 hf
    rw [HLS.out] at hn9
    subst hn9
    obtain ⟨yb, yo, rfl, _⟩ := sl_addr hs9 (bcs_at (i := 0) (by rw [HLS.out]; exact hl1))
    have S_y := Lib.hid hs9
    clear hs9
    clear hf R_x R_y
    have HVP : Hid (∀ k, k < l.length → 0 ≤ vL l k) := Lib.hid fun k hk => (vL_ln HAF.out hk).1
    have HIP := Lib.hid (Rat.inv_pos.2 HMI.out.1)
    have HWI : Hid (Within l.length (vL l) LH LS) := Lib.hid (by rw [← H_LH.out, ← H_LS.out]; exact within_is HIP.out HVP.out)
    have HSL := Lib.hid (H.out.2.2.ext HW.out)
    have HBL : Hid (Below w4'.heap.size w4' w4') := Lib.hid (Below.refl _ _)
    go_wp2
    go_loopw [50] (fun s wr => ∃ i : Nat, i ≤ l.length ∧ s = .int .i64 (i : Int) ∧ Hid (Below w4'.heap.size w4' wr)) (fun s _ => l.length - (intOf s).toNat)
    case atStart => exact ⟨0, by omega, rfl, HBL⟩
    case round =>
      clear HBL
      obtain ⟨i, hi, rfl, HBL⟩ := hrel
      generalize hX : wr = X at *
      clear hX
      by_cases hlt : i < l.length
      · obtain ⟨xi, hxi⟩ : ∃ b, LH.getD i false = b := ⟨_, rfl⟩
        obtain ⟨yi, hyi⟩ : ∃ b, LS.getD i false = b := ⟨_, rfl⟩
        have HXI := Lib.hid hxi
        have HYI := Lib.hid hyi
        clear hxi hyi
        have c_xi : X.cell? ⟨xb, xo + i, none⟩ = some (.bool xi) := by obtain ⟨_, _, e, h⟩ := sl_addr (S_x.out.ext HBL.out) (bcs_at (i := i) (by rw [HLH.out]; exact hlt)); cases e; rw [← HXI.out]; exact h
        have c_yi : X.cell? ⟨yb, yo + i, none⟩ = some (.bool yi) := by obtain ⟨_, _, e, h⟩ := sl_addr (S_y.out.ext HBL.out) (bcs_at (i := i) (by rw [HLS.out]; exact hlt)); cases e; rw [← HYI.out]; exact h
        have hi0 : (0 : Int) ≤ (i : Int) := Int.natCast_nonneg _
        have hi1 : (i : Int) < (l.length : Int) := by omega
        have hi3 : (i : Int).toNat = i := by omega
        have HB2 : Hid (Below X.heap.size X X) := Lib.hid (Below.refl _ _)
        cases xi
        · cases yi
          · go_wp2
            go_loopw [66] (fun s wr => ∃ k : Nat, k ≤ l.length ∧ s = .int .i64 (k : Int) ∧ Hid (Below X.heap.size X wr)) (fun s _ => l.length - (intOf s).toNat)
            case atStart => exact ⟨0, by omega, rfl, HB2⟩
            case round =>
              clear HB2
              obtain ⟨k, hk, rfl, HB2⟩ := hrel
              generalize hV : wr = V at *
              clear hV
              have hsb : w4'.heap.size ≤ X.heap.size := HBL.out.size
              by_cases hlk : k < l.length
              · obtain ⟨xk, hxk⟩ : ∃ b, LH.getD k false = b := ⟨_, rfl⟩
                obtain ⟨yk, hyk⟩ : ∃ b, LS.getD k false = b := ⟨_, rfl⟩
                have HXK := Lib.hid hxk
                have HYK := Lib.hid hyk
                clear hxk hyk
                have HGV : Hid (Below w4'.heap.size w4' V) := Lib.hid (HBL.out.trans (HB2.out.mono hsb))
                have HGW : Hid (∀ w', Below V.heap.size V w' → Tab w') := Lib.hid fun w' hb => HT0.out.ext (ext_trans HW.out (HGV.out.trans (hb.mono HGV.out.size)))
                obtain ⟨pb, po, rfl, hd0, hd1⟩ := rt_elem HAF.out HSL.out hlt
                obtain ⟨pb2, po2, hp2, he0, he1⟩ := rt_elem HAF.out HSL.out hlk
                cases hp2
                have HFI := Lib.hid (vL_fits HAF.out hlt)
                have HFK := Lib.hid (vL_fits HAF.out hlk)
                have d0 : V.cell? ⟨pb, po + i * 2, none⟩ = some (.string (showN (vL l i))) := (HGV.out.cell (World.block_lt_of_cell? _ _ hd0)).trans hd0
                have d1 : V.cell? ⟨pb, po + i * 2 + 1, none⟩ = some (.string (showD (vL l i))) := (HGV.out.cell (World.block_lt_of_cell? _ _ hd1)).trans hd1
                have e0 : V.cell? ⟨pb, po + k * 2, none⟩ = some (.string (showN (vL l k))) := (HGV.out.cell (World.block_lt_of_cell? _ _ he0)).trans he0
                have e1 : V.cell? ⟨pb, po + k * 2 + 1, none⟩ = some (.string (showD (vL l k))) := (HGV.out.cell (World.block_lt_of_cell? _ _ he1)).trans he1
                have v_xi : V.cell? ⟨xb, xo + i, none⟩ = some (.bool false) := by obtain ⟨_, _, e, h⟩ := sl_addr (S_x.out.ext HGV.out) (bcs_at (i := i) (by rw [HLH.out]; exact hlt)); cases e; rw [HXI.out] at h; exact h
                have v_xk : V.cell? ⟨xb, xo + k, none⟩ = some (.bool xk) := by obtain ⟨_, _, e, h⟩ := sl_addr (S_x.out.ext HGV.out) (bcs_at (i := k) (by rw [HLH.out]; exact hlk)); cases e; rw [HXK.out] at h; exact h
                have v_yi : V.cell? ⟨yb, yo + i, none⟩ = some (.bool false) := by obtain ⟨_, _, e, h⟩ := sl_addr (S_y.out.ext HGV.out) (bcs_at (i := i) (by rw [HLS.out]; exact hlt)); cases e; rw [HYI.out] at h; exact h
                have v_yk : V.cell? ⟨yb, yo + k, none⟩ = some (.bool yk) := by obtain ⟨_, _, e, h⟩ := sl_addr (S_y.out.ext HGV.out) (bcs_at (i := k) (by rw [HLS.out]; exact hlk)); cases e; rw [HYK.out] at h; exact h
                obtain ⟨b, hb⟩ : ∃ b, decide (vL l i < vL l k) = b := ⟨_, rfl⟩
                have HBB := Lib.hid hb
                clear hb
                have hk0 : (0 : Int) ≤ (k : Int) := Int.natCast_nonneg _
                have hk1 : (k : Int) < (l.length : Int) := by omega
                have hk3 : (k : Int).toNat = k := by omega
                clear hd0 hd1 he0 he1 c_xi c_yi
                cases b
                · go_upto_region 15 with (fail)
                  refine Grow.wp_region_grow 35 [TP.eq (.slice (some ⟨pb, po, none⟩) l.length c), TP.eq (.int .i64 (i : Int)), TP.eq (.pointer (some ⟨pb, po + i * 2, none⟩)), TP.eq (.agg #[.string (showN (vL l i)), .string (showD (vL l i))]), TP.eq (.slice (some ⟨pb, po, none⟩) l.length c), TP.eq (.int .i64 (k : Int)), TP.eq (.pointer (some ⟨pb, po + k * 2, none⟩)), TP.eq (.agg #[.string (showN (vL l k)), .string (showD (vL l k))]), TP.eq (.bool false), TP.eq (.bool false), TP.eq undef, TP.eq undef, TP.eq undef, TP.eq undef, TP.eq undef, TP.eq undef, TP.eq undef, TP.eq undef, TP.eq undef, TP.eq undef, TP.eq undef, TP.eq undef, TP.eq undef, TP.eq undef, TP.eq undef, TP.eq undef, TP.eq undef, TP.eq undef, TP.eq undef, TP.eq undef, TP.eq undef, TP.eq undef, TP.eq undef, TP.eq undef, TP.eq (.bool false)] [[], [], [0, 1], [2], [], [], [4, 5], [6], [3, 7], [8], [9], [9], [9, 10, 11], [9, 12], [9, 13], [14], [14], [14, 15, 16], [14, 17], [14, 18], [9, 14, 19], [9, 20], [21], [21], [21, 22, 23], [21, 24], [21, 25], [26], [26], [26, 27, 28], [26, 29], [26, 30], [21, 26, 31], [9, 21, 32], [9, 33]] (by kernel_rfl) (by kernel_rfl) ⟨?o0w, ?o1w, ?o2w, ?o3w, ?o4w, ?o5w, ?o6w, ?o7w, ?o8w, ?o9w, ?o10w, ?o11w, ?o12w, ?o13w, ?o14w, ?o15w, ?o16w, ?o17w, ?o18w, ?o19w, ?o20w, ?o21w, ?o22w, ?o23w, ?o24w, ?o25w, ?o26w, ?o27w, ?o28w, ?o29w, ?o30w, ?o31w, ?o32w, ?o33w, ?o34w, trivial⟩ ?_
                  case o0w =>
                    intro w' hb
                    show wpList _ _ _ _ _ _
                    go_wp2
                    exact ⟨rfl, Below.refl _ _, rfl⟩
                  case o1w =>
                    intro w' hb
                    show wpList _ _ _ _ _ _
                    go_wp2
                    exact ⟨rfl, Below.refl _ _, rfl⟩
                  case o2w =>
                    intro w' hb v1 hv1 v2 hv2
                    obtain rfl : v1 = _ := hv1
                    obtain rfl : v2 = _ := hv2
                    show wpList _ _ _ _ _ _
                    simp only [Grow.dstOf, List.getElem?_toArray, List.getElem?_cons_succ, List.getElem?_cons_zero, Option.bind_some, Act.put, List.setIfInBounds_toArray, List.set_cons_succ, List.set_cons_zero]
                    go_wp2
                    exact ⟨rfl, Below.refl _ _, rfl⟩
                  case o3w =>
                    intro w' hb v1 hv1
                    obtain rfl : v1 = _ := hv1
                    have d0' : w'.cell? ⟨pb, po + i * 2, none⟩ = some (.string (showN (vL l i))) := (hb.cell (World.block_lt_of_cell? _ _ d0)).trans d0
                    have d1' : w'.cell? ⟨pb, po + i * 2 + 1, none⟩ = some (.string (showD (vL l i))) := (hb.cell (World.block_lt_of_cell? _ _ d1)).trans d1
                    show wpList _ _ _ _ _ _
                    simp only [Grow.dstOf, List.getElem?_toArray, List.getElem?_cons_succ, List.getElem?_cons_zero, Option.bind_some, Act.put, List.setIfInBounds_toArray, List.set_cons_succ, List.set_cons_zero]
                    go_wp2
                    exact ⟨rfl, Below.refl _ _, rfl⟩
                  case o4w =>
                    intro w' hb
                    show wpList _ _ _ _ _ _
                    go_wp2
                    exact ⟨rfl, Below.refl _ _, rfl⟩
                  case o5w =>
                    intro w' hb
                    show wpList _ _ _ _ _ _
                    go_wp2
                    exact ⟨rfl, Below.refl _ _, rfl⟩
                  case o6w =>
                    intro w' hb v1 hv1 v2 hv2
                    obtain rfl : v1 = _ := hv1
                    obtain rfl : v2 = _ := hv2
                    show wpList _ _ _ _ _ _
                    simp only [Grow.dstOf, List.getElem?_toArray, List.getElem?_cons_succ, List.getElem?_cons_zero, Option.bind_some, Act.put, List.setIfInBounds_toArray, List.set_cons_succ, List.set_cons_zero]
                    go_wp2
                    exact ⟨rfl, Below.refl _ _, rfl⟩
                  case o7w =>
                    intro w' hb v1 hv1
                    obtain rfl : v1 = _ := hv1
                    have e0' : w'.cell? ⟨pb, po + k * 2, none⟩ = some (.string (showN (vL l k))) := (hb.cell (World.block_lt_of_cell? _ _ e0)).trans e0
                    have e1' : w'.cell? ⟨pb, po + k * 2 + 1, none⟩ = some (.string (showD (vL l k))) := (hb.cell (World.block_lt_of_cell? _ _ e1)).trans e1
                    show wpList _ _ _ _ _ _
                    simp only [Grow.dstOf, List.getElem?_toArray, List.getElem?_cons_succ, List.getElem?_cons_zero, Option.bind_some, Act.put, List.setIfInBounds_toArray, List.set_cons_succ, List.set_cons_zero]
                    go_wp2
                    exact ⟨rfl, Below.refl _ _, rfl⟩
                  case o8w =>
                    intro w' hb v1 hv1 v2 hv2
                    obtain rfl : v1 = _ := hv1
                    obtain rfl : v2 = _ := hv2
                    show wpList _ _ _ _ _ _
                    simp only [Grow.dstOf, List.getElem?_toArray, List.getElem?_cons_succ, List.getElem?_cons_zero, Option.bind_some, Act.put, List.setIfInBounds_toArray, List.set_cons_succ, List.set_cons_zero]
                    go_wp2_with fail
                    refine (less_is (vL l i) (vL l k) false HBB.out HFI.out HFK.out w' (HGW.out w' hb)).mono ?_
                    rintro e wz ⟨rfl, hbz⟩
                    go_wp2
                    exact ⟨rfl, hbz, rfl⟩
                  case o9w =>
                    intro w' hb v1 hv1
                    obtain rfl : v1 = _ := hv1
                    show wpList _ _ _ _ _ _
                    simp only [Grow.dstOf, List.getElem?_toArray, List.getElem?_cons_succ, List.getElem?_cons_zero, Option.bind_some, Act.put, List.setIfInBounds_toArray, List.set_cons_succ, List.set_cons_zero]
                    go_wp2
                    exact ⟨rfl, Below.refl _ _, rfl⟩
                  case o10w =>
                    intro w' hb v1 hv1
                    obtain rfl : v1 = _ := hv1
                    show wpList _ _ _ _ _ _
                    simp only [Grow.dstOf, List.getElem?_toArray, List.getElem?_cons_succ, List.getElem?_cons_zero, Option.bind_some, Act.put, List.setIfInBounds_toArray, List.set_cons_succ, List.set_cons_zero]
                    go_wp2
                    exact ⟨rfl, Below.refl _ _, rfl⟩
                  case o11w =>
                    intro w' hb v1 hv1
                    obtain rfl : v1 = _ := hv1
                    show wpList _ _ _ _ _ _
                    simp only [Grow.dstOf, List.getElem?_toArray, List.getElem?_cons_succ, List.getElem?_cons_zero, Option.bind_some, Act.put, List.setIfInBounds_toArray, List.set_cons_succ, List.set_cons_zero]
                    go_wp2
                    exact ⟨rfl, Below.refl _ _, rfl⟩
                  case o12w =>
                    intro w' hb v1 hv1 v2 hv2 v3 hv3
                    obtain rfl : v1 = _ := hv1
                    obtain rfl : v2 = _ := hv2
                    obtain rfl : v3 = _ := hv3
                    show wpList _ _ _ _ _ _
                    simp only [Grow.dstOf, List.getElem?_toArray, List.getElem?_cons_succ, List.getElem?_cons_zero, Option.bind_some, Act.put, List.setIfInBounds_toArray, List.set_cons_succ, List.set_cons_zero]
                    go_wp2
                    exact ⟨rfl, Below.refl _ _, rfl⟩
                  case o13w =>
                    intro w' hb v1 hv1 v2 hv2
                    obtain rfl : v1 = _ := hv1
                    obtain rfl : v2 = _ := hv2
                    show wpList _ _ _ _ _ _
                    simp only [Grow.dstOf, List.getElem?_toArray, List.getElem?_cons_succ, List.getElem?_cons_zero, Option.bind_some, Act.put, List.setIfInBounds_toArray, List.set_cons_succ, List.set_cons_zero]
                    go_wp2
                    exact ⟨rfl, Below.refl _ _, rfl⟩
                  case o14w =>
                    intro w' hb v1 hv1 v2 hv2
                    obtain rfl : v1 = _ := hv1
                    obtain rfl : v2 = _ := hv2
                    show wpList _ _ _ _ _ _
                    simp only [Grow.dstOf, List.getElem?_toArray, List.getElem?_cons_succ, List.getElem?_cons_zero, Option.bind_some, Act.put, List.setIfInBounds_toArray, List.set_cons_succ, List.set_cons_zero]
                    go_wp2
                    exact ⟨rfl, Below.refl _ _, rfl⟩
                  case o15w =>
                    intro w' hb v1 hv1
                    obtain rfl : v1 = _ := hv1
                    show wpList _ _ _ _ _ _
                    simp only [Grow.dstOf, List.getElem?_toArray, List.getElem?_cons_succ, List.getElem?_cons_zero, Option.bind_some, Act.put, List.setIfInBounds_toArray, List.set_cons_succ, List.set_cons_zero]
                    go_wp2
                    exact ⟨rfl, Below.refl _ _, rfl⟩
                  case o16w =>
                    intro w' hb v1 hv1
                    obtain rfl : v1 = _ := hv1
                    show wpList _ _ _ _ _ _
                    simp only [Grow.dstOf, List.getElem?_toArray, List.getElem?_cons_succ, List.getElem?_cons_zero, Option.bind_some, Act.put, List.setIfInBounds_toArray, List.set_cons_succ, List.set_cons_zero]
                    go_wp2
                    exact ⟨rfl, Below.refl _ _, rfl⟩
                  case o17w =>
                    intro w' hb v1 hv1 v2 hv2 v3 hv3
                    obtain rfl : v1 = _ := hv1
                    obtain rfl : v2 = _ := hv2
                    obtain rfl : v3 = _ := hv3
                    show wpList _ _ _ _ _ _
                    simp only [Grow.dstOf, List.getElem?_toArray, List.getElem?_cons_succ, List.getElem?_cons_zero, Option.bind_some, Act.put, List.setIfInBounds_toArray, List.set_cons_succ, List.set_cons_zero]
                    go_wp2
                    exact ⟨rfl, Below.refl _ _, rfl⟩
                  case o18w =>
                    intro w' hb v1 hv1 v2 hv2
                    obtain rfl : v1 = _ := hv1
                    obtain rfl : v2 = _ := hv2
                    show wpList _ _ _ _ _ _
                    simp only [Grow.dstOf, List.getElem?_toArray, List.getElem?_cons_succ, List.getElem?_cons_zero, Option.bind_some, Act.put, List.setIfInBounds_toArray, List.set_cons_succ, List.set_cons_zero]
                    go_wp2
                    exact ⟨rfl, Below.refl _ _, rfl⟩
                  case o19w =>
                    intro w' hb v1 hv1 v2 hv2
                    obtain rfl : v1 = _ := hv1
                    obtain rfl : v2 = _ := hv2
                    show wpList _ _ _ _ _ _
                    simp only [Grow.dstOf, List.getElem?_toArray, List.getElem?_cons_succ, List.getElem?_cons_zero, Option.bind_some, Act.put, List.setIfInBounds_toArray, List.set_cons_succ, List.set_cons_zero]
                    go_wp2
                    exact ⟨rfl, Below.refl _ _, rfl⟩
                  case o20w =>
                    intro w' hb v1 hv1 v2 hv2 v3 hv3
                    obtain rfl : v1 = _ := hv1
                    obtain rfl : v2 = _ := hv2
                    obtain rfl : v3 = _ := hv3
                    show wpList _ _ _ _ _ _
                    simp only [Grow.dstOf, List.getElem?_toArray, List.getElem?_cons_succ, List.getElem?_cons_zero, Option.bind_some, Act.put, List.setIfInBounds_toArray, List.set_cons_succ, List.set_cons_zero]
                    go_wp2
                    exact ⟨rfl, Below.refl _ _, rfl⟩
                  case o21w =>
                    intro w' hb v1 hv1 v2 hv2
                    obtain rfl : v1 = _ := hv1
                    obtain rfl : v2 = _ := hv2
                    show wpList _ _ _ _ _ _
                    simp only [Grow.dstOf, List.getElem?_toArray, List.getElem?_cons_succ, List.getElem?_cons_zero, Option.bind_some, Act.put, List.setIfInBounds_toArray, List.set_cons_succ, List.set_cons_zero]
                    go_wp2
                    exact ⟨rfl, Below.refl _ _, rfl⟩
                  case o22w =>
                    intro w' hb v1 hv1
                    obtain rfl : v1 = _ := hv1
                    show wpList _ _ _ _ _ _
                    simp only [Grow.dstOf, List.getElem?_toArray, List.getElem?_cons_succ, List.getElem?_cons_zero, Option.bind_some, Act.put, List.setIfInBounds_toArray, List.set_cons_succ, List.set_cons_zero]
                    go_wp2
                    exact ⟨rfl, Below.refl _ _, rfl⟩
                  case o23w =>
                    intro w' hb v1 hv1
                    obtain rfl : v1 = _ := hv1
                    show wpList _ _ _ _ _ _
                    simp only [Grow.dstOf, List.getElem?_toArray, List.getElem?_cons_succ, List.getElem?_cons_zero, Option.bind_some, Act.put, List.setIfInBounds_toArray, List.set_cons_succ, List.set_cons_zero]
                    go_wp2
                    exact ⟨rfl, Below.refl _ _, rfl⟩
                  case o24w =>
                    intro w' hb v1 hv1 v2 hv2 v3 hv3
                    obtain rfl : v1 = _ := hv1
                    obtain rfl : v2 = _ := hv2
                    obtain rfl : v3 = _ := hv3
                    show wpList _ _ _ _ _ _
                    simp only [Grow.dstOf, List.getElem?_toArray, List.getElem?_cons_succ, List.getElem?_cons_zero, Option.bind_some, Act.put, List.setIfInBounds_toArray, List.set_cons_succ, List.set_cons_zero]
                    go_wp2
                    exact ⟨rfl, Below.refl _ _, rfl⟩
                  case o25w =>
                    intro w' hb v1 hv1 v2 hv2
                    obtain rfl : v1 = _ := hv1
                    obtain rfl : v2 = _ := hv2
                    show wpList _ _ _ _ _ _
                    simp only [Grow.dstOf, List.getElem?_toArray, List.getElem?_cons_succ, List.getElem?_cons_zero, Option.bind_some, Act.put, List.setIfInBounds_toArray, List.set_cons_succ, List.set_cons_zero]
                    go_wp2
                    exact ⟨rfl, Below.refl _ _, rfl⟩
                  case o26w =>
                    intro w' hb v1 hv1 v2 hv2
                    obtain rfl : v1 = _ := hv1
                    obtain rfl : v2 = _ := hv2
                    show wpList _ _ _ _ _ _
                    simp only [Grow.dstOf, List.getElem?_toArray, List.getElem?_cons_succ, List.getElem?_cons_zero, Option.bind_some, Act.put, List.setIfInBounds_toArray, List.set_cons_succ, List.set_cons_zero]
                    go_wp2
                    exact ⟨rfl, Below.refl _ _, rfl⟩
                  case o27w =>
                    intro w' hb v1 hv1
                    obtain rfl : v1 = _ := hv1
                    show wpList _ _ _ _ _ _
                    simp only [Grow.dstOf, List.getElem?_toArray, List.getElem?_cons_succ, List.getElem?_cons_zero, Option.bind_some, Act.put, List.setIfInBounds_toArray, List.set_cons_succ, List.set_cons_zero]
                    go_wp2
                    exact ⟨rfl, Below.refl _ _, rfl⟩
                  case o28w =>
                    intro w' hb v1 hv1
                    obtain rfl : v1 = _ := hv1
                    show wpList _ _ _ _ _ _
                    simp only [Grow.dstOf, List.getElem?_toArray, List.getElem?_cons_succ, List.getElem?_cons_zero, Option.bind_some, Act.put, List.setIfInBounds_toArray, List.set_cons_succ, List.set_cons_zero]
                    go_wp2
                    exact ⟨rfl, Below.refl _ _, rfl⟩
                  case o29w =>
                    intro w' hb v1 hv1 v2 hv2 v3 hv3
                    obtain rfl : v1 = _ := hv1
                    obtain rfl : v2 = _ := hv2
                    obtain rfl : v3 = _ := hv3
                    show wpList _ _ _ _ _ _
                    simp only [Grow.dstOf, List.getElem?_toArray, List.getElem?_cons_succ, List.getElem?_cons_zero, Option.bind_some, Act.put, List.setIfInBounds_toArray, List.set_cons_succ, List.set_cons_zero]
                    go_wp2
                    exact ⟨rfl, Below.refl _ _, rfl⟩
                  case o30w =>
                    intro w' hb v1 hv1 v2 hv2
                    obtain rfl : v1 = _ := hv1
                    obtain rfl : v2 = _ := hv2
                    show wpList _ _ _ _ _ _
                    simp only [Grow.dstOf, List.getElem?_toArray, List.getElem?_cons_succ, List.getElem?_cons_zero, Option.bind_some, Act.put, List.setIfInBounds_toArray, List.set_cons_succ, List.set_cons_zero]
                    go_wp2
                    exact ⟨rfl, Below.refl _ _, rfl⟩
                  case o31w =>
                    intro w' hb v1 hv1 v2 hv2
                    obtain rfl : v1 = _ := hv1
                    obtain rfl : v2 = _ := hv2
                    show wpList _ _ _ _ _ _
                    simp only [Grow.dstOf, List.getElem?_toArray, List.getElem?_cons_succ, List.getElem?_cons_zero, Option.bind_some, Act.put, List.setIfInBounds_toArray, List.set_cons_succ, List.set_cons_zero]
                    go_wp2
                    exact ⟨rfl, Below.refl _ _, rfl⟩
                  case o32w =>
                    intro w' hb v1 hv1 v2 hv2 v3 hv3
                    obtain rfl : v1 = _ := hv1
                    obtain rfl : v2 = _ := hv2
                    obtain rfl : v3 = _ := hv3
                    show wpList _ _ _ _ _ _
                    simp only [Grow.dstOf, List.getElem?_toArray, List.getElem?_cons_succ, List.getElem?_cons_zero, Option.bind_some, Act.put, List.setIfInBounds_toArray, List.set_cons_succ, List.set_cons_zero]
                    go_wp2
                    exact ⟨rfl, Below.refl _ _, rfl⟩
                  case o33w =>
                    intro w' hb v1 hv1 v2 hv2 v3 hv3
                    obtain rfl : v1 = _ := hv1
                    obtain rfl : v2 = _ := hv2
                    obtain rfl : v3 = _ := hv3
                    show wpList _ _ _ _ _ _
                    simp only [Grow.dstOf, List.getElem?_toArray, List.getElem?_cons_succ, List.getElem?_cons_zero, Option.bind_some, Act.put, List.setIfInBounds_toArray, List.set_cons_succ, List.set_cons_zero]
                    go_wp2
                    exact ⟨rfl, Below.refl _ _, rfl⟩
                  case o34w =>
                    intro w' hb v1 hv1 v2 hv2
                    obtain rfl : v1 = _ := hv1
                    obtain rfl : v2 = _ := hv2
                    show wpList _ _ _ _ _ _
                    simp only [Grow.dstOf, List.getElem?_toArray, List.getElem?_cons_succ, List.getElem?_cons_zero, Option.bind_some, Act.put, List.setIfInBounds_toArray, List.set_cons_succ, List.set_cons_zero]
                    go_wp2
                    exact ⟨rfl, Below.refl _ _, rfl⟩
                  intro V2 hbz u0 hu0 u1 hu1 u2 hu2 u3 hu3 u4 hu4 u5 hu5 u6 hu6 u7 hu7 u8 hu8 u9 hu9 u10 hu10 u11 hu11 u12 hu12 u13 hu13 u14 hu14 u15 hu15 u16 hu16 u17 hu17 u18 hu18 u19 hu19 u20 hu20 u21 hu21 u22 hu22 u23 hu23 u24 hu24 u25 hu25 u26 hu26 u27 hu27 u28 hu28 u29 hu29 u30 hu30 u31 hu31 u32 hu32 u33 hu33 u34 hu34
                  obtain rfl : u34 = _ := hu34
                  clear hu0 hu1 hu2 hu3 hu4 hu5 hu6 hu7 hu8 hu9 hu10 hu11 hu12 hu13 hu14 hu15 hu16 hu17 hu18 hu19 hu20 hu21 hu22 hu23 hu24 hu25 hu26 hu27 hu28 hu29 hu30 hu31 hu32 hu33
                  refine tail_none (P := Tryz.prog) (ops := #[]) ?_
                  simp only [Act.put, List.setIfInBounds_toArray, List.set_cons_succ, List.set_cons_zero]
                  clear d0 d1 e0 e1 v_xi v_xk v_yi v_yk HGW
                  replace HB2 := Lib.hid (ext_trans HB2.out hbz)
                  clear hbz
                  go_wp2
                  go_roundw
                  case rel => exact ⟨k + 1, by omega, by go_num, HB2⟩
                  case measure => simp [intOf]; omega
                · go_upto_region 15 with (fail)
                  refine Grow.wp_region_grow 35 [TP.eq (.slice (some ⟨pb, po, none⟩) l.length c), TP.eq (.int .i64 (i : Int)), TP.eq (.pointer (some ⟨pb, po + i * 2, none⟩)), TP.eq (.agg #[.string (showN (vL l i)), .string (showD (vL l i))]), TP.eq (.slice (some ⟨pb, po, none⟩) l.length c), TP.eq (.int .i64 (k : Int)), TP.eq (.pointer (some ⟨pb, po + k * 2, none⟩)), TP.eq (.agg #[.string (showN (vL l k)), .string (showD (vL l k))]), TP.eq (.bool true), TP.eq (.bool true), TP.eq (.slice (some ⟨xb, xo, none⟩) l.length xc), TP.eq (.int .i64 (i : Int)), TP.eq (.pointer (some ⟨xb, xo + i, none⟩)), TP.eq (.bool false), TP.eq (.bool false), TP.eq undef, TP.eq undef, TP.eq undef, TP.eq undef, TP.eq undef, TP.eq (.bool false), TP.eq (.bool false), TP.eq (.slice (some ⟨yb, yo, none⟩) l.length yc), TP.eq (.int .i64 (i : Int)), TP.eq (.pointer (some ⟨yb, yo + i, none⟩)), TP.eq (.bool false), TP.eq (.bool false), TP.eq undef, TP.eq undef, TP.eq undef, TP.eq undef, TP.eq undef, TP.eq (.bool false), TP.eq (.bool false), TP.eq (.bool false)] [[], [], [0, 1], [2], [], [], [4, 5], [6], [3, 7], [8], [9], [9], [9, 10, 11], [9, 12], [9, 13], [14], [14], [14, 15, 16], [14, 17], [14, 18], [9, 14, 19], [9, 20], [21], [21], [21, 22, 23], [21, 24], [21, 25], [26], [26], [26, 27, 28], [26, 29], [26, 30], [21, 26, 31], [9, 21, 32], [9, 33]] (by kernel_rfl) (by kernel_rfl) ⟨?o0w, ?o1w, ?o2w, ?o3w, ?o4w, ?o5w, ?o6w, ?o7w, ?o8w, ?o9w, ?o10w, ?o11w, ?o12w, ?o13w, ?o14w, ?o15w, ?o16w, ?o17w, ?o18w, ?o19w, ?o20w, ?o21w, ?o22w, ?o23w, ?o24w, ?o25w, ?o26w, ?o27w, ?o28w, ?o29w, ?o30w, ?o31w, ?o32w, ?o33w, ?o34w, trivial⟩ ?_
                  case o0w =>
                    intro w' hb
                    show wpList _ _ _ _ _ _
                    go_wp2
                    exact ⟨rfl, Below.refl _ _, rfl⟩
                  case o1w =>
                    intro w' hb
                    show wpList _ _ _ _ _ _
                    go_wp2
                    exact ⟨rfl, Below.refl _ _, rfl⟩
                  case o2w =>
                    intro w' hb v1 hv1 v2 hv2
                    obtain rfl : v1 = _ := hv1
                    obtain rfl : v2 = _ := hv2
                    show wpList _ _ _ _ _ _
                    simp only [Grow.dstOf, List.getElem?_toArray, List.getElem?_cons_succ, List.getElem?_cons_zero, Option.bind_some, Act.put, List.setIfInBounds_toArray, List.set_cons_succ, List.set_cons_zero]
                    go_wp2
                    exact ⟨rfl, Below.refl _ _, rfl⟩
                  case o3w =>
                    intro w' hb v1 hv1
                    obtain rfl : v1 = _ := hv1
                    have d0' : w'.cell? ⟨pb, po + i * 2, none⟩ = some (.string (showN (vL l i))) := (hb.cell (World.block_lt_of_cell? _ _ d0)).trans d0
                    have d1' : w'.cell? ⟨pb, po + i * 2 + 1, none⟩ = some (.string (showD (vL l i))) := (hb.cell (World.block_lt_of_cell? _ _ d1)).trans d1
                    show wpList _ _ _ _ _ _
                    simp only [Grow.dstOf, List.getElem?_toArray, List.getElem?_cons_succ, List.getElem?_cons_zero, Option.bind_some, Act.put, List.setIfInBounds_toArray, List.set_cons_succ, List.set_cons_zero]
                    go_wp2
                    exact ⟨rfl, Below.refl _ _, rfl⟩
                  case o4w =>
                    intro w' hb
                    show wpList _ _ _ _ _ _
                    go_wp2
                    exact ⟨rfl, Below.refl _ _, rfl⟩
                  case o5w =>
                    intro w' hb
                    show wpList _ _ _ _ _ _
                    go_wp2
                    exact ⟨rfl, Below.refl _ _, rfl⟩
                  case o6w =>
                    intro w' hb v1 hv1 v2 hv2
                    obtain rfl : v1 = _ := hv1
                    obtain rfl : v2 = _ := hv2
                    show wpList _ _ _ _ _ _
                    simp only [Grow.dstOf, List.getElem?_toArray, List.getElem?_cons_succ, List.getElem?_cons_zero, Option.bind_some, Act.put, List.setIfInBounds_toArray, List.set_cons_succ, List.set_cons_zero]
                    go_wp2
                    exact ⟨rfl, Below.refl _ _, rfl⟩
                  case o7w =>
                    intro w' hb v1 hv1
                    obtain rfl : v1 = _ := hv1
                    have e0' : w'.cell? ⟨pb, po + k * 2, none⟩ = some (.string (showN (vL l k))) := (hb.cell (World.block_lt_of_cell? _ _ e0)).trans e0
                    have e1' : w'.cell? ⟨pb, po + k * 2 + 1, none⟩ = some (.string (showD (vL l k))) := (hb.cell (World.block_lt_of_cell? _ _ e1)).trans e1
                    show wpList _ _ _ _ _ _
                    simp only [Grow.dstOf, List.getElem?_toArray, List.getElem?_cons_succ, List.getElem?_cons_zero, Option.bind_some, Act.put, List.setIfInBounds_toArray, List.set_cons_succ, List.set_cons_zero]
                    go_wp2
                    exact ⟨rfl, Below.refl _ _, rfl⟩
                  case o8w =>
                    intro w' hb v1 hv1 v2 hv2
                    obtain rfl : v1 = _ := hv1
                    obtain rfl : v2 = _ := hv2
                    show wpList _ _ _ _ _ _
                    simp only [Grow.dstOf, List.getElem?_toArray, List.getElem?_cons_succ, List.getElem?_cons_zero, Option.bind_some, Act.put, List.setIfInBounds_toArray, List.set_cons_succ, List.set_cons_zero]
                    go_wp2_with fail
                    refine (less_is (vL l i) (vL l k) true HBB.out HFI.out HFK.out w' (HGW.out w' hb)).mono ?_
                    rintro e wz ⟨rfl, hbz⟩
                    go_wp2
                    exact ⟨rfl, hbz, rfl⟩
                  case o9w =>
                    intro w' hb v1 hv1
                    obtain rfl : v1 = _ := hv1
                    show wpList _ _ _ _ _ _
                    simp only [Grow.dstOf, List.getElem?_toArray, List.getElem?_cons_succ, List.getElem?_cons_zero, Option.bind_some, Act.put, List.setIfInBounds_toArray, List.set_cons_succ, List.set_cons_zero]
                    go_wp2
                    exact ⟨rfl, Below.refl _ _, rfl⟩
                  case o10w =>
                    intro w' hb v1 hv1
                    obtain rfl : v1 = _ := hv1
                    show wpList _ _ _ _ _ _
                    simp only [Grow.dstOf, List.getElem?_toArray, List.getElem?_cons_succ, List.getElem?_cons_zero, Option.bind_some, Act.put, List.setIfInBounds_toArray, List.set_cons_succ, List.set_cons_zero]
                    go_wp2
                    exact ⟨rfl, Below.refl _ _, rfl⟩
                  case o11w =>
                    intro w' hb v1 hv1
                    obtain rfl : v1 = _ := hv1
                    show wpList _ _ _ _ _ _
                    simp only [Grow.dstOf, List.getElem?_toArray, List.getElem?_cons_succ, List.getElem?_cons_zero, Option.bind_some, Act.put, List.setIfInBounds_toArray, List.set_cons_succ, List.set_cons_zero]
                    go_wp2
                    exact ⟨rfl, Below.refl _ _, rfl⟩
                  case o12w =>
                    intro w' hb v1 hv1 v2 hv2 v3 hv3
                    obtain rfl : v1 = _ := hv1
                    obtain rfl : v2 = _ := hv2
                    obtain rfl : v3 = _ := hv3
                    show wpList _ _ _ _ _ _
                    simp only [Grow.dstOf, List.getElem?_toArray, List.getElem?_cons_succ, List.getElem?_cons_zero, Option.bind_some, Act.put, List.setIfInBounds_toArray, List.set_cons_succ, List.set_cons_zero]
                    go_wp2
                    exact ⟨rfl, Below.refl _ _, rfl⟩
                  case o13w =>
                    intro w' hb v1 hv1 v2 hv2
                    obtain rfl : v1 = _ := hv1
                    obtain rfl : v2 = _ := hv2
                    have v_xi' : w'.cell? ⟨xb, xo + i, none⟩ = some (.bool false) := (hb.cell (World.block_lt_of_cell? _ _ v_xi)).trans v_xi
                    show wpList _ _ _ _ _ _
                    simp only [Grow.dstOf, List.getElem?_toArray, List.getElem?_cons_succ, List.getElem?_cons_zero, Option.bind_some, Act.put, List.setIfInBounds_toArray, List.set_cons_succ, List.set_cons_zero]
                    go_wp2
                    exact ⟨rfl, Below.refl _ _, rfl⟩
                  case o14w =>
                    intro w' hb v1 hv1 v2 hv2
                    obtain rfl : v1 = _ := hv1
                    obtain rfl : v2 = _ := hv2
                    show wpList _ _ _ _ _ _
                    simp only [Grow.dstOf, List.getElem?_toArray, List.getElem?_cons_succ, List.getElem?_cons_zero, Option.bind_some, Act.put, List.setIfInBounds_toArray, List.set_cons_succ, List.set_cons_zero]
                    go_wp2
                    exact ⟨rfl, Below.refl _ _, rfl⟩
                  case o15w =>
                    intro w' hb v1 hv1
                    obtain rfl : v1 = _ := hv1
                    show wpList _ _ _ _ _ _
                    simp only [Grow.dstOf, List.getElem?_toArray, List.getElem?_cons_succ, List.getElem?_cons_zero, Option.bind_some, Act.put, List.setIfInBounds_toArray, List.set_cons_succ, List.set_cons_zero]
                    go_wp2
                    exact ⟨rfl, Below.refl _ _, rfl⟩
                  case o16w =>
                    intro w' hb v1 hv1
                    obtain rfl : v1 = _ := hv1
                    show wpList _ _ _ _ _ _
                    simp only [Grow.dstOf, List.getElem?_toArray, List.getElem?_cons_succ, List.getElem?_cons_zero, Option.bind_some, Act.put, List.setIfInBounds_toArray, List.set_cons_succ, List.set_cons_zero]
                    go_wp2
                    exact ⟨rfl, Below.refl _ _, rfl⟩
                  case o17w =>
                    intro w' hb v1 hv1 v2 hv2 v3 hv3
                    obtain rfl : v1 = _ := hv1
                    obtain rfl : v2 = _ := hv2
                    obtain rfl : v3 = _ := hv3
                    show wpList _ _ _ _ _ _
                    simp only [Grow.dstOf, List.getElem?_toArray, List.getElem?_cons_succ, List.getElem?_cons_zero, Option.bind_some, Act.put, List.setIfInBounds_toArray, List.set_cons_succ, List.set_cons_zero]
                    go_wp2
                    exact ⟨rfl, Below.refl _ _, rfl⟩
                  case o18w =>
                    intro w' hb v1 hv1 v2 hv2
                    obtain rfl : v1 = _ := hv1
                    obtain rfl : v2 = _ := hv2
                    show wpList _ _ _ _ _ _
                    simp only [Grow.dstOf, List.getElem?_toArray, List.getElem?_cons_succ, List.getElem?_cons_zero, Option.bind_some, Act.put, List.setIfInBounds_toArray, List.set_cons_succ, List.set_cons_zero]
                    go_wp2
                    exact ⟨rfl, Below.refl _ _, rfl⟩
                  case o19w =>
                    intro w' hb v1 hv1 v2 hv2
                    obtain rfl : v1 = _ := hv1
                    obtain rfl : v2 = _ := hv2
                    show wpList _ _ _ _ _ _
                    simp only [Grow.dstOf, List.getElem?_toArray, List.getElem?_cons_succ, List.getElem?_cons_zero, Option.bind_some, Act.put, List.setIfInBounds_toArray, List.set_cons_succ, List.set_cons_zero]
                    go_wp2
                    exact ⟨rfl, Below.refl _ _, rfl⟩
                  case o20w =>
                    intro w' hb v1 hv1 v2 hv2 v3 hv3
                    obtain rfl : v1 = _ := hv1
                    obtain rfl : v2 = _ := hv2
                    obtain rfl : v3 = _ := hv3
                    show wpList _ _ _ _ _ _
                    simp only [Grow.dstOf, List.getElem?_toArray, List.getElem?_cons_succ, List.getElem?_cons_zero, Option.bind_some, Act.put, List.setIfInBounds_toArray, List.set_cons_succ, List.set_cons_zero]
                    go_wp2
                    exact ⟨rfl, Below.refl _ _, rfl⟩
                  case o21w =>
                    intro w' hb v1 hv1 v2 hv2
                    obtain rfl : v1 = _ := hv1
                    obtain rfl : v2 = _ := hv2
                    show wpList _ _ _ _ _ _
                    simp only [Grow.dstOf, List.getElem?_toArray, List.getElem?_cons_succ, List.getElem?_cons_zero, Option.bind_some, Act.put, List.setIfInBounds_toArray, List.set_cons_succ, List.set_cons_zero]
                    go_wp2
                    exact ⟨rfl, Below.refl _ _, rfl⟩
                  case o22w =>
                    intro w' hb v1 hv1
                    obtain rfl : v1 = _ := hv1
                    show wpList _ _ _ _ _ _
                    simp only [Grow.dstOf, List.getElem?_toArray, List.getElem?_cons_succ, List.getElem?_cons_zero, Option.bind_some, Act.put, List.setIfInBounds_toArray, List.set_cons_succ, List.set_cons_zero]
                    go_wp2
                    exact ⟨rfl, Below.refl _ _, rfl⟩
                  case o23w =>
                    intro w' hb v1 hv1
                    obtain rfl : v1 = _ := hv1
                    show wpList _ _ _ _ _ _
                    simp only [Grow.dstOf, List.getElem?_toArray, List.getElem?_cons_succ, List.getElem?_cons_zero, Option.bind_some, Act.put, List.setIfInBounds_toArray, List.set_cons_succ, List.set_cons_zero]
                    go_wp2
                    exact ⟨rfl, Below.refl _ _, rfl⟩
                  case o24w =>
                    intro w' hb v1 hv1 v2 hv2 v3 hv3
                    obtain rfl : v1 = _ := hv1
                    obtain rfl : v2 = _ := hv2
                    obtain rfl : v3 = _ := hv3
                    show wpList _ _ _ _ _ _
                    simp only [Grow.dstOf, List.getElem?_toArray, List.getElem?_cons_succ, List.getElem?_cons_zero, Option.bind_some, Act.put, List.setIfInBounds_toArray, List.set_cons_succ, List.set_cons_zero]
                    go_wp2
                    exact ⟨rfl, Below.refl _ _, rfl⟩
                  case o25w =>
                    intro w' hb v1 hv1 v2 hv2
                    obtain rfl : v1 = _ := hv1
                    obtain rfl : v2 = _ := hv2
                    have v_yi' : w'.cell? ⟨yb, yo + i, none⟩ = some (.bool false) := (hb.cell (World.block_lt_of_cell? _ _ v_yi)).trans v_yi
                    show wpList _ _ _ _ _ _
                    simp only [Grow.dstOf, List.getElem?_toArray, List.getElem?_cons_succ, List.getElem?_cons_zero, Option.bind_some, Act.put, List.setIfInBounds_toArray, List.set_cons_succ, List.set_cons_zero]
                    go_wp2
                    exact ⟨rfl, Below.refl _ _, rfl⟩
                  case o26w =>
                    intro w' hb v1 hv1 v2 hv2
                    obtain rfl : v1 = _ := hv1
                    obtain rfl : v2 = _ := hv2
                    show wpList _ _ _ _ _ _
                    simp only [Grow.dstOf, List.getElem?_toArray, List.getElem?_cons_succ, List.getElem?_cons_zero, Option.bind_some, Act.put, List.setIfInBounds_toArray, List.set_cons_succ, List.set_cons_zero]
                    go_wp2
                    exact ⟨rfl, Below.refl _ _, rfl⟩
                  case o27w =>
                    intro w' hb v1 hv1
                    obtain rfl : v1 = _ := hv1
                    show wpList _ _ _ _ _ _
                    simp only [Grow.dstOf, List.getElem?_toArray, List.getElem?_cons_succ, List.getElem?_cons_zero, Option.bind_some, Act.put, List.setIfInBounds_toArray, List.set_cons_succ, List.set_cons_zero]
                    go_wp2
                    exact ⟨rfl, Below.refl _ _, rfl⟩
                  case o28w =>
                    intro w' hb v1 hv1
                    obtain rfl : v1 = _ := hv1
                    show wpList _ _ _ _ _ _
                    simp only [Grow.dstOf, List.getElem?_toArray, List.getElem?_cons_succ, List.getElem?_cons_zero, Option.bind_some, Act.put, List.setIfInBounds_toArray, List.set_cons_succ, List.set_cons_zero]
                    go_wp2
                    exact ⟨rfl, Below.refl _ _, rfl⟩
                  case o29w =>
                    intro w' hb v1 hv1 v2 hv2 v3 hv3
                    obtain rfl : v1 = _ := hv1
                    obtain rfl : v2 = _ := hv2
                    obtain rfl : v3 = _ := hv3
                    show wpList _ _ _ _ _ _
                    simp only [Grow.dstOf, List.getElem?_toArray, List.getElem?_cons_succ, List.getElem?_cons_zero, Option.bind_some, Act.put, List.setIfInBounds_toArray, List.set_cons_succ, List.set_cons_zero]
                    go_wp2
                    exact ⟨rfl, Below.refl _ _, rfl⟩
                  case o30w =>
                    intro w' hb v1 hv1 v2 hv2
                    obtain rfl : v1 = _ := hv1
                    obtain rfl : v2 = _ := hv2
                    show wpList _ _ _ _ _ _
                    simp only [Grow.dstOf, List.getElem?_toArray, List.getElem?_cons_succ, List.getElem?_cons_zero, Option.bind_some, Act.put, List.setIfInBounds_toArray, List.set_cons_succ, List.set_cons_zero]
                    go_wp2
                    exact ⟨rfl, Below.refl _ _, rfl⟩
                  case o31w =>
                    intro w' hb v1 hv1 v2 hv2
                    obtain rfl : v1 = _ := hv1
                    obtain rfl : v2 = _ := hv2
                    show wpList _ _ _ _ _ _
                    simp only [Grow.dstOf, List.getElem?_toArray, List.getElem?_cons_succ, List.getElem?_cons_zero, Option.bind_some, Act.put, List.setIfInBounds_toArray, List.set_cons_succ, List.set_cons_zero]
                    go_wp2
                    exact ⟨rfl, Below.refl _ _, rfl⟩
                  case o32w =>
                    intro w' hb v1 hv1 v2 hv2 v3 hv3
                    obtain rfl : v1 = _ := hv1
                    obtain rfl : v2 = _ := hv2
                    obtain rfl : v3 = _ := hv3
                    show wpList _ _ _ _ _ _
                    simp only [Grow.dstOf, List.getElem?_toArray, List.getElem?_cons_succ, List.getElem?_cons_zero, Option.bind_some, Act.put, List.setIfInBounds_toArray, List.set_cons_succ, List.set_cons_zero]
                    go_wp2
                    exact ⟨rfl, Below.refl _ _, rfl⟩
                  case o33w =>
                    intro w' hb v1 hv1 v2 hv2 v3 hv3
                    obtain rfl : v1 = _ := hv1
                    obtain rfl : v2 = _ := hv2
                    obtain rfl : v3 = _ := hv3
                    show wpList _ _ _ _ _ _
                    simp only [Grow.dstOf, List.getElem?_toArray, List.getElem?_cons_succ, List.getElem?_cons_zero, Option.bind_some, Act.put, List.setIfInBounds_toArray, List.set_cons_succ, List.set_cons_zero]
                    go_wp2
                    exact ⟨rfl, Below.refl _ _, rfl⟩
                  case o34w =>
                    intro w' hb v1 hv1 v2 hv2
                    obtain rfl : v1 = _ := hv1
                    obtain rfl : v2 = _ := hv2
                    show wpList _ _ _ _ _ _
                    simp only [Grow.dstOf, List.getElem?_toArray, List.getElem?_cons_succ, List.getElem?_cons_zero, Option.bind_some, Act.put, List.setIfInBounds_toArray, List.set_cons_succ, List.set_cons_zero]
                    go_wp2
                    exact ⟨rfl, Below.refl _ _, rfl⟩
                  intro V2 hbz u0 hu0 u1 hu1 u2 hu2 u3 hu3 u4 hu4 u5 hu5 u6 hu6 u7 hu7 u8 hu8 u9 hu9 u10 hu10 u11 hu11 u12 hu12 u13 hu13 u14 hu14 u15 hu15 u16 hu16 u17 hu17 u18 hu18 u19 hu19 u20 hu20 u21 hu21 u22 hu22 u23 hu23 u24 hu24 u25 hu25 u26 hu26 u27 hu27 u28 hu28 u29 hu29 u30 hu30 u31 hu31 u32 hu32 u33 hu33 u34 hu34
                  obtain rfl : u34 = _ := hu34
                  clear hu0 hu1 hu2 hu3 hu4 hu5 hu6 hu7 hu8 hu9 hu10 hu11 hu12 hu13 hu14 hu15 hu16 hu17 hu18 hu19 hu20 hu21 hu22 hu23 hu24 hu25 hu26 hu27 hu28 hu29 hu30 hu31 hu32 hu33
                  refine tail_none (P := Tryz.prog) (ops := #[]) ?_
                  simp only [Act.put, List.setIfInBounds_toArray, List.set_cons_succ, List.set_cons_zero]
                  clear d0 d1 e0 e1 v_xi v_xk v_yi v_yk HGW
                  replace HB2 := Lib.hid (ext_trans HB2.out hbz)
                  clear hbz
                  go_wp2
                  go_roundw
                  case rel => exact ⟨k + 1, by omega, by go_num, HB2⟩
                  case measure => simp [intOf]; omega
              · have hki : k = l.length := by omega
                replace HBL := Lib.hid (HBL.out.trans (HB2.out.mono hsb))
                clear c_xi c_yi
                go_wp2
                go_roundw
                case rel => exact ⟨i + 1, by omega, by go_num, HBL⟩
                case measure => simp [intOf]; omega
          · go_wp2
            go_loopw [66] (fun s wr => ∃ k : Nat, k ≤ l.length ∧ s = .int .i64 (k : Int) ∧ Hid (Below X.heap.size X wr)) (fun s _ => l.length - (intOf s).toNat)
            case atStart => exact ⟨0, by omega, rfl, HB2⟩
            case round =>
              clear HB2
              obtain ⟨k, hk, rfl, HB2⟩ := hrel
              generalize hV : wr = V at *
              clear hV
              have hsb : w4'.heap.size ≤ X.heap.size := HBL.out.size
              by_cases hlk : k < l.length
              · obtain ⟨xk, hxk⟩ : ∃ b, LH.getD k false = b := ⟨_, rfl⟩
                obtain ⟨yk, hyk⟩ : ∃ b, LS.getD k false = b := ⟨_, rfl⟩
                have HXK := Lib.hid hxk
                have HYK := Lib.hid hyk
                clear hxk hyk
                have HGV : Hid (Below w4'.heap.size w4' V) := Lib.hid (HBL.out.trans (HB2.out.mono hsb))
                have HGW : Hid (∀ w', Below V.heap.size V w' → Tab w') := Lib.hid fun w' hb => HT0.out.ext (ext_trans HW.out (HGV.out.trans (hb.mono HGV.out.size)))
                obtain ⟨pb, po, rfl, hd0, hd1⟩ := rt_elem HAF.out HSL.out hlt
                obtain ⟨pb2, po2, hp2, he0, he1⟩ := rt_elem HAF.out HSL.out hlk
                cases hp2
                have HFI := Lib.hid (vL_fits HAF.out hlt)
                have HFK := Lib.hid (vL_fits HAF.out hlk)
                have d0 : V.cell? ⟨pb, po + i * 2, none⟩ = some (.string (showN (vL l i))) := (HGV.out.cell (World.block_lt_of_cell? _ _ hd0)).trans hd0
                have d1 : V.cell? ⟨pb, po + i * 2 + 1, none⟩ = some (.string (showD (vL l i))) := (HGV.out.cell (World.block_lt_of_cell? _ _ hd1)).trans hd1
                have e0 : V.cell? ⟨pb, po + k * 2, none⟩ = some (.string (showN (vL l k))) := (HGV.out.cell (World.block_lt_of_cell? _ _ he0)).trans he0
                have e1 : V.cell? ⟨pb, po + k * 2 + 1, none⟩ = some (.string (showD (vL l k))) := (HGV.out.cell (World.block_lt_of_cell? _ _ he1)).trans he1
                have v_xi : V.cell? ⟨xb, xo + i, none⟩ = some (.bool false) := by obtain ⟨_, _, e, h⟩ := sl_addr (S_x.out.ext HGV.out) (bcs_at (i := i) (by rw [HLH.out]; exact hlt)); cases e; rw [HXI.out] at h; exact h
                have v_xk : V.cell? ⟨xb, xo + k, none⟩ = some (.bool xk) := by obtain ⟨_, _, e, h⟩ := sl_addr (S_x.out.ext HGV.out) (bcs_at (i := k) (by rw [HLH.out]; exact hlk)); cases e; rw [HXK.out] at h; exact h
                have v_yi : V.cell? ⟨yb, yo + i, none⟩ = some (.bool true) := by obtain ⟨_, _, e, h⟩ := sl_addr (S_y.out.ext HGV.out) (bcs_at (i := i) (by rw [HLS.out]; exact hlt)); cases e; rw [HYI.out] at h; exact h
                have v_yk : V.cell? ⟨yb, yo + k, none⟩ = some (.bool yk) := by obtain ⟨_, _, e, h⟩ := sl_addr (S_y.out.ext HGV.out) (bcs_at (i := k) (by rw [HLS.out]; exact hlk)); cases e; rw [HYK.out] at h; exact h
                obtain ⟨b, hb⟩ : ∃ b, decide (vL l i < vL l k) = b := ⟨_, rfl⟩
                have HBB := Lib.hid hb
                clear hb
                have hk0 : (0 : Int) ≤ (k : Int) := Int.natCast_nonneg _
                have hk1 : (k : Int) < (l.length : Int) := by omega
                have hk3 : (k : Int).toNat = k := by omega
                clear hd0 hd1 he0 he1 c_xi c_yi
                cases b
                · go_upto_region 15 with (fail)
                  refine Grow.wp_region_grow 35 [TP.eq (.slice (some ⟨pb, po, none⟩) l.length c), TP.eq (.int .i64 (i : Int)), TP.eq (.pointer (some ⟨pb, po + i * 2, none⟩)), TP.eq (.agg #[.string (showN (vL l i)), .string (showD (vL l i))]), TP.eq (.slice (some ⟨pb, po, none⟩) l.length c), TP.eq (.int .i64 (k : Int)), TP.eq (.pointer (some ⟨pb, po + k * 2, none⟩)), TP.eq (.agg #[.string (showN (vL l k)), .string (showD (vL l k))]), TP.eq (.bool false), TP.eq (.bool false), TP.eq undef, TP.eq undef, TP.eq undef, TP.eq undef, TP.eq undef, TP.eq undef, TP.eq undef, TP.eq undef, TP.eq undef, TP.eq undef, TP.eq undef, TP.eq undef, TP.eq undef, TP.eq undef, TP.eq undef, TP.eq undef, TP.eq undef, TP.eq undef, TP.eq undef, TP.eq undef, TP.eq undef, TP.eq undef, TP.eq undef, TP.eq undef, TP.eq (.bool false)] [[], [], [0, 1], [2], [], [], [4, 5], [6], [3, 7], [8], [9], [9], [9, 10, 11], [9, 12], [9, 13], [14], [14], [14, 15, 16], [14, 17], [14, 18], [9, 14, 19], [9, 20], [21], [21], [21, 22, 23], [21, 24], [21, 25], [26], [26], [26, 27, 28], [26, 29], [26, 30], [21, 26, 31], [9, 21, 32], [9, 33]] (by kernel_rfl) (by kernel_rfl) ⟨?o0w, ?o1w, ?o2w, ?o3w, ?o4w, ?o5w, ?o6w, ?o7w, ?o8w, ?o9w, ?o10w, ?o11w, ?o12w, ?o13w, ?o14w, ?o15w, ?o16w, ?o17w, ?o18w, ?o19w, ?o20w, ?o21w, ?o22w, ?o23w, ?o24w, ?o25w, ?o26w, ?o27w, ?o28w, ?o29w, ?o30w, ?o31w, ?o32w, ?o33w, ?o34w, trivial⟩ ?_
                  case o0w =>
                    intro w' hb
                    show wpList _ _ _ _ _ _
                    go_wp2
                    exact ⟨rfl, Below.refl _ _, rfl⟩
                  case o1w =>
                    intro w' hb
                    show wpList _ _ _ _ _ _
                    go_wp2
                    exact ⟨rfl, Below.refl _ _, rfl⟩
                  case o2w =>
                    intro w' hb v1 hv1 v2 hv2
                    obtain rfl : v1 = _ := hv1
                    obtain rfl : v2 = _ := hv2
                    show wpList _ _ _ _ _ _
                    simp only [Grow.dstOf, List.getElem?_toArray, List.getElem?_cons_succ, List.getElem?_cons_zero, Option.bind_some, Act.put, List.setIfInBounds_toArray, List.set_cons_succ, List.set_cons_zero]
                    go_wp2
                    exact ⟨rfl, Below.refl _ _, rfl⟩
                  case o3w =>
                    intro w' hb v1 hv1
                    obtain rfl : v1 = _ := hv1
                    have d0' : w'.cell? ⟨pb, po + i * 2, none⟩ = some (.string (showN (vL l i))) := (hb.cell (World.block_lt_of_cell? _ _ d0)).trans d0
                    have d1' : w'.cell? ⟨pb, po + i * 2 + 1, none⟩ = some (.string (showD (vL l i))) := (hb.cell (World.block_lt_of_cell? _ _ d1)).trans d1
                    show wpList _ _ _ _ _ _
                    simp only [Grow.dstOf, List.getElem?_toArray, List.getElem?_cons_succ, List.getElem?_cons_zero, Option.bind_some, Act.put, List.setIfInBounds_toArray, List.set_cons_succ, List.set_cons_zero]
                    go_wp2
                    exact ⟨rfl, Below.refl _ _, rfl⟩
                  case o4w =>
                    intro w' hb
                    show wpList _ _ _ _ _ _
                    go_wp2
                    exact ⟨rfl, Below.refl _ _, rfl⟩
                  case o5w =>
                    intro w' hb
                    show wpList _ _ _ _ _ _
                    go_wp2
                    exact ⟨rfl, Below.refl _ _, rfl⟩
                  case o6w =>
                    intro w' hb v1 hv1 v2 hv2
                    obtain rfl : v1 = _ := hv1
                    obtain rfl : v2 = _ := hv2
                    show wpList _ _ _ _ _ _
                    simp only [Grow.dstOf, List.getElem?_toArray, List.getElem?_cons_succ, List.getElem?_cons_zero, Option.bind_some, Act.put, List.setIfInBounds_toArray, List.set_cons_succ, List.set_cons_zero]
                    go_wp2
                    exact ⟨rfl, Below.refl _ _, rfl⟩
                  case o7w =>
                    intro w' hb v1 hv1
                    obtain rfl : v1 = _ := hv1
                    have e0' : w'.cell? ⟨pb, po + k * 2, none⟩ = some (.string (showN (vL l k))) := (hb.cell (World.block_lt_of_cell? _ _ e0)).trans e0
                    have e1' : w'.cell? ⟨pb, po + k * 2 + 1, none⟩ = some (.string (showD (vL l k))) := (hb.cell (World.block_lt_of_cell? _ _ e1)).trans e1
                    show wpList _ _ _ _ _ _
                    simp only [Grow.dstOf, List.getElem?_toArray, List.getElem?_cons_succ, List.getElem?_cons_zero, Option.bind_some, Act.put, List.setIfInBounds_toArray, List.set_cons_succ, List.set_cons_zero]
                    go_wp2
                    exact ⟨rfl, Below.refl _ _, rfl⟩
                  case o8w =>
                    intro w' hb v1 hv1 v2 hv2
                    obtain rfl : v1 = _ := hv1
                    obtain rfl : v2 = _ := hv2
                    show wpList _ _ _ _ _ _
                    simp only [Grow.dstOf, List.getElem?_toArray, List.getElem?_cons_succ, List.getElem?_cons_zero, Option.bind_some, Act.put, List.setIfInBounds_toArray, List.set_cons_succ, List.set_cons_zero]
                    go_wp2_with fail
                    refine (less_is (vL l i) (vL l k) false HBB.out HFI.out HFK.out w' (HGW.out w' hb)).mono ?_
                    rintro e wz ⟨rfl, hbz⟩
                    go_wp2
                    exact ⟨rfl, hbz, rfl⟩
                  case o9w =>
                    intro w' hb v1 hv1
                    obtain rfl : v1 = _ := hv1
                    show wpList _ _ _ _ _ _
                    simp only [Grow.dstOf, List.getElem?_toArray, List.getElem?_cons_succ, List.getElem?_cons_zero, Option.bind_some, Act.put, List.setIfInBounds_toArray, List.set_cons_succ, List.set_cons_zero]
                    go_wp2
                    exact ⟨rfl, Below.refl _ _, rfl⟩
                  case o10w =>
                    intro w' hb v1 hv1
                    obtain rfl : v1 = _ := hv1
                    show wpList _ _ _ _ _ _
                    simp only [Grow.dstOf, List.getElem?_toArray, List.getElem?_cons_succ, List.getElem?_cons_zero, Option.bind_some, Act.put, List.setIfInBounds_toArray, List.set_cons_succ, List.set_cons_zero]
                    go_wp2
                    exact ⟨rfl, Below.refl _ _, rfl⟩
                  case o11w =>
                    intro w' hb v1 hv1
                    obtain rfl : v1 = _ := hv1
                    show wpList _ _ _ _ _ _
                    simp only [Grow.dstOf, List.getElem?_toArray, List.getElem?_cons_succ, List.getElem?_cons_zero, Option.bind_some, Act.put, List.setIfInBounds_toArray, List.set_cons_succ, List.set_cons_zero]
                    go_wp2
                    exact ⟨rfl, Below.refl _ _, rfl⟩
                  case o12w =>
                    intro w' hb v1 hv1 v2 hv2 v3 hv3
                    obtain rfl : v1 = _ := hv1
                    obtain rfl : v2 = _ := hv2
                    obtain rfl : v3 = _ := hv3
                    show wpList _ _ _ _ _ _
                    simp only [Grow.dstOf, List.getElem?_toArray, List.getElem?_cons_succ, List.getElem?_cons_zero, Option.bind_some, Act.put, List.setIfInBounds_toArray, List.set_cons_succ, List.set_cons_zero]
                    go_wp2
                    exact ⟨rfl, Below.refl _ _, rfl⟩
                  case o13w =>
                    intro w' hb v1 hv1 v2 hv2
                    obtain rfl : v1 = _ := hv1
                    obtain rfl : v2 = _ := hv2
                    show wpList _ _ _ _ _ _
                    simp only [Grow.dstOf, List.getElem?_toArray, List.getElem?_cons_succ, List.getElem?_cons_zero, Option.bind_some, Act.put, List.setIfInBounds_toArray, List.set_cons_succ, List.set_cons_zero]
                    go_wp2
                    exact ⟨rfl, Below.refl _ _, rfl⟩
                  case o14w =>
                    intro w' hb v1 hv1 v2 hv2
                    obtain rfl : v1 = _ := hv1
                    obtain rfl : v2 = _ := hv2
                    show wpList _ _ _ _ _ _
                    simp only [Grow.dstOf, List.getElem?_toArray, List.getElem?_cons_succ, List.getElem?_cons_zero, Option.bind_some, Act.put, List.setIfInBounds_toArray, List.set_cons_succ, List.set_cons_zero]
                    go_wp2
                    exact ⟨rfl, Below.refl _ _, rfl⟩
                  case o15w =>
                    intro w' hb v1 hv1
                    obtain rfl : v1 = _ := hv1
                    show wpList _ _ _ _ _ _
                    simp only [Grow.dstOf, List.getElem?_toArray, List.getElem?_cons_succ, List.getElem?_cons_zero, Option.bind_some, Act.put, List.setIfInBounds_toArray, List.set_cons_succ, List.set_cons_zero]
                    go_wp2
                    exact ⟨rfl, Below.refl _ _, rfl⟩
                  case o16w =>
                    intro w' hb v1 hv1
                    obtain rfl : v1 = _ := hv1
                    show wpList _ _ _ _ _ _
                    simp only [Grow.dstOf, List.getElem?_toArray, List.getElem?_cons_succ, List.getElem?_cons_zero, Option.bind_some, Act.put, List.setIfInBounds_toArray, List.set_cons_succ, List.set_cons_zero]
                    go_wp2
                    exact ⟨rfl, Below.refl _ _, rfl⟩
                  case o17w =>
                    intro w' hb v1 hv1 v2 hv2 v3 hv3
                    obtain rfl : v1 = _ := hv1
                    obtain rfl : v2 = _ := hv2
                    obtain rfl : v3 = _ := hv3
                    show wpList _ _ _ _ _ _
                    simp only [Grow.dstOf, List.getElem?_toArray, List.getElem?_cons_succ, List.getElem?_cons_zero, Option.bind_some, Act.put, List.setIfInBounds_toArray, List.set_cons_succ, List.set_cons_zero]
                    go_wp2
                    exact ⟨rfl, Below.refl _ _, rfl⟩
                  case o18w =>
                    intro w' hb v1 hv1 v2 hv2
                    obtain rfl : v1 = _ := hv1
                    obtain rfl : v2 = _ := hv2
                    show wpList _ _ _ _ _ _
                    simp only [Grow.dstOf, List.getElem?_toArray, List.getElem?_cons_succ, List.getElem?_cons_zero, Option.bind_some, Act.put, List.setIfInBounds_toArray, List.set_cons_succ, List.set_cons_zero]
                    go_wp2
                    exact ⟨rfl, Below.refl _ _, rfl⟩
                  case o19w =>
                    intro w' hb v1 hv1 v2 hv2
                    obtain rfl : v1 = _ := hv1
                    obtain rfl : v2 = _ := hv2
                    show wpList _ _ _ _ _ _
                    simp only [Grow.dstOf, List.getElem?_toArray, List.getElem?_cons_succ, List.getElem?_cons_zero, Option.bind_some, Act.put, List.setIfInBounds_toArray, List.set_cons_succ, List.set_cons_zero]
                    go_wp2
                    exact ⟨rfl, Below.refl _ _, rfl⟩
                  case o20w =>
                    intro w' hb v1 hv1 v2 hv2 v3 hv3
                    obtain rfl : v1 = _ := hv1
                    obtain rfl : v2 = _ := hv2
                    obtain rfl : v3 = _ := hv3
                    show wpList _ _ _ _ _ _
                    simp only [Grow.dstOf, List.getElem?_toArray, List.getElem?_cons_succ, List.getElem?_cons_zero, Option.bind_some, Act.put, List.setIfInBounds_toArray, List.set_cons_succ, List.set_cons_zero]
                    go_wp2
                    exact ⟨rfl, Below.refl _ _, rfl⟩
                  case o21w =>
                    intro w' hb v1 hv1 v2 hv2
                    obtain rfl : v1 = _ := hv1
                    obtain rfl : v2 = _ := hv2
                    show wpList _ _ _ _ _ _
                    simp only [Grow.dstOf, List.getElem?_toArray, List.getElem?_cons_succ, List.getElem?_cons_zero, Option.bind_some, Act.put, List.setIfInBounds_toArray, List.set_cons_succ, List.set_cons_zero]
                    go_wp2
                    exact ⟨rfl, Below.refl _ _, rfl⟩
                  case o22w =>
                    intro w' hb v1 hv1
                    obtain rfl : v1 = _ := hv1
                    show wpList _ _ _ _ _ _
                    simp only [Grow.dstOf, List.getElem?_toArray, List.getElem?_cons_succ, List.getElem?_cons_zero, Option.bind_some, Act.put, List.setIfInBounds_toArray, List.set_cons_succ, List.set_cons_zero]
                    go_wp2
                    exact ⟨rfl, Below.refl _ _, rfl⟩
                  case o23w =>
                    intro w' hb v1 hv1
                    obtain rfl : v1 = _ := hv1
                    show wpList _ _ _ _ _ _
                    simp only [Grow.dstOf, List.getElem?_toArray, List.getElem?_cons_succ, List.getElem?_cons_zero, Option.bind_some, Act.put, List.setIfInBounds_toArray, List.set_cons_succ, List.set_cons_zero]
                    go_wp2
                    exact ⟨rfl, Below.refl _ _, rfl⟩
                  case o24w =>
                    intro w' hb v1 hv1 v2 hv2 v3 hv3
                    obtain rfl : v1 = _ := hv1
                    obtain rfl : v2 = _ := hv2
                    obtain rfl : v3 = _ := hv3
                    show wpList _ _ _ _ _ _
                    simp only [Grow.dstOf, List.getElem?_toArray, List.getElem?_cons_succ, List.getElem?_cons_zero, Option.bind_some, Act.put, List.setIfInBounds_toArray, List.set_cons_succ, List.set_cons_zero]
                    go_wp2
                    exact ⟨rfl, Below.refl _ _, rfl⟩
                  case o25w =>
                    intro w' hb v1 hv1 v2 hv2
                    obtain rfl : v1 = _ := hv1
                    obtain rfl : v2 = _ := hv2
                    show wpList _ _ _ _ _ _
                    simp only [Grow.dstOf, List.getElem?_toArray, List.getElem?_cons_succ, List.getElem?_cons_zero, Option.bind_some, Act.put, List.setIfInBounds_toArray, List.set_cons_succ, List.set_cons_zero]
                    go_wp2
                    exact ⟨rfl, Below.refl _ _, rfl⟩
                  case o26w =>
                    intro w' hb v1 hv1 v2 hv2
                    obtain rfl : v1 = _ := hv1
                    obtain rfl : v2 = _ := hv2
                    show wpList _ _ _ _ _ _
                    simp only [Grow.dstOf, List.getElem?_toArray, List.getElem?_cons_succ, List.getElem?_cons_zero, Option.bind_some, Act.put, List.setIfInBounds_toArray, List.set_cons_succ, List.set_cons_zero]
                    go_wp2
                    exact ⟨rfl, Below.refl _ _, rfl⟩
                  case o27w =>
                    intro w' hb v1 hv1
                    obtain rfl : v1 = _ := hv1
                    show wpList _ _ _ _ _ _
                    simp only [Grow.dstOf, List.getElem?_toArray, List.getElem?_cons_succ, List.getElem?_cons_zero, Option.bind_some, Act.put, List.setIfInBounds_toArray, List.set_cons_succ, List.set_cons_zero]
                    go_wp2
                    exact ⟨rfl, Below.refl _ _, rfl⟩
                  case o28w =>
                    intro w' hb v1 hv1
                    obtain rfl : v1 = _ := hv1
                    show wpList _ _ _ _ _ _
                    simp only [Grow.dstOf, List.getElem?_toArray, List.getElem?_cons_succ, List.getElem?_cons_zero, Option.bind_some, Act.put, List.setIfInBounds_toArray, List.set_cons_succ, List.set_cons_zero]
                    go_wp2
                    exact ⟨rfl, Below.refl _ _, rfl⟩
                  case o29w =>
                    intro w' hb v1 hv1 v2 hv2 v3 hv3
                    obtain rfl : v1 = _ := hv1
                    obtain rfl : v2 = _ := hv2
                    obtain rfl : v3 = _ := hv3
                    show wpList _ _ _ _ _ _
                    simp only [Grow.dstOf, List.getElem?_toArray, List.getElem?_cons_succ, List.getElem?_cons_zero, Option.bind_some, Act.put, List.setIfInBounds_toArray, List.set_cons_succ, List.set_cons_zero]
                    go_wp2
                    exact ⟨rfl, Below.refl _ _, rfl⟩
                  case o30w =>
                    intro w' hb v1 hv1 v2 hv2
                    obtain rfl : v1 = _ := hv1
                    obtain rfl : v2 = _ := hv2
                    show wpList _ _ _ _ _ _
                    simp only [Grow.dstOf, List.getElem?_toArray, List.getElem?_cons_succ, List.getElem?_cons_zero, Option.bind_some, Act.put, List.setIfInBounds_toArray, List.set_cons_succ, List.set_cons_zero]
                    go_wp2
                    exact ⟨rfl, Below.refl _ _, rfl⟩
                  case o31w =>
                    intro w' hb v1 hv1 v2 hv2
                    obtain rfl : v1 = _ := hv1
                    obtain rfl : v2 = _ := hv2
                    show wpList _ _ _ _ _ _
                    simp only [Grow.dstOf, List.getElem?_toArray, List.getElem?_cons_succ, List.getElem?_cons_zero, Option.bind_some, Act.put, List.setIfInBounds_toArray, List.set_cons_succ, List.set_cons_zero]
                    go_wp2
                    exact ⟨rfl, Below.refl _ _, rfl⟩
                  case o32w =>
                    intro w' hb v1 hv1 v2 hv2 v3 hv3
                    obtain rfl : v1 = _ := hv1
                    obtain rfl : v2 = _ := hv2
                    obtain rfl : v3 = _ := hv3
                    show wpList _ _ _ _ _ _
                    simp only [Grow.dstOf, List.getElem?_toArray, List.getElem?_cons_succ, List.getElem?_cons_zero, Option.bind_some, Act.put, List.setIfInBounds_toArray, List.set_cons_succ, List.set_cons_zero]
                    go_wp2
                    exact ⟨rfl, Below.refl _ _, rfl⟩
                  case o33w =>
                    intro w' hb v1 hv1 v2 hv2 v3 hv3
                    obtain rfl : v1 = _ := hv1
                    obtain rfl : v2 = _ := hv2
                    obtain rfl : v3 = _ := hv3
                    show wpList _ _ _ _ _ _
                    simp only [Grow.dstOf, List.getElem?_toArray, List.getElem?_cons_succ, List.getElem?_cons_zero, Option.bind_some, Act.put, List.setIfInBounds_toArray, List.set_cons_succ, List.set_cons_zero]
                    go_wp2
                    exact ⟨rfl, Below.refl _ _, rfl⟩
                  case o34w =>
                    intro w' hb v1 hv1 v2 hv2
                    obtain rfl : v1 = _ := hv1
                    obtain rfl : v2 = _ := hv2
                    show wpList _ _ _ _ _ _
                    simp only [Grow.dstOf, List.getElem?_toArray, List.getElem?_cons_succ, List.getElem?_cons_zero, Option.bind_some, Act.put, List.setIfInBounds_toArray, List.set_cons_succ, List.set_cons_zero]
                    go_wp2
                    exact ⟨rfl, Below.refl _ _, rfl⟩
                  intro V2 hbz u0 hu0 u1 hu1 u2 hu2 u3 hu3 u4 hu4 u5 hu5 u6 hu6 u7 hu7 u8 hu8 u9 hu9 u10 hu10 u11 hu11 u12 hu12 u13 hu13 u14 hu14 u15 hu15 u16 hu16 u17 hu17 u18 hu18 u19 hu19 u20 hu20 u21 hu21 u22 hu22 u23 hu23 u24 hu24 u25 hu25 u26 hu26 u27 hu27 u28 hu28 u29 hu29 u30 hu30 u31 hu31 u32 hu32 u33 hu33 u34 hu34
                  obtain rfl : u34 = _ := hu34
                  clear hu0 hu1 hu2 hu3 hu4 hu5 hu6 hu7 hu8 hu9 hu10 hu11 hu12 hu13 hu14 hu15 hu16 hu17 hu18 hu19 hu20 hu21 hu22 hu23 hu24 hu25 hu26 hu27 hu28 hu29 hu30 hu31 hu32 hu33
                  refine tail_none (P := Tryz.prog) (ops := #[]) ?_
                  simp only [Act.put, List.setIfInBounds_toArray, List.set_cons_succ, List.set_cons_zero]
                  clear d0 d1 e0 e1 v_xi v_xk v_yi v_yk HGW
                  replace HB2 := Lib.hid (ext_trans HB2.out hbz)
                  clear hbz
                  go_wp2
                  go_roundw
                  case rel => exact ⟨k + 1, by omega, by go_num, HB2⟩
                  case measure => simp [intOf]; omega
                · obtain rfl : yk = true := by rw [← HYK.out]; exact HWI.out.my i k hlt hlk (of_decide_eq_true HBB.out) HYI.out
                  go_upto_region 15 with (fail)
                  refine Grow.wp_region_grow 35 [TP.eq (.slice (some ⟨pb, po, none⟩) l.length c), TP.eq (.int .i64 (i : Int)), TP.eq (.pointer (some ⟨pb, po + i * 2, none⟩)), TP.eq (.agg #[.string (showN (vL l i)), .string (showD (vL l i))]), TP.eq (.slice (some ⟨pb, po, none⟩) l.length c), TP.eq (.int .i64 (k : Int)), TP.eq (.pointer (some ⟨pb, po + k * 2, none⟩)), TP.eq (.agg #[.string (showN (vL l k)), .string (showD (vL l k))]), TP.eq (.bool true), TP.eq (.bool true), TP.eq (.slice (some ⟨xb, xo, none⟩) l.length xc), TP.eq (.int .i64 (i : Int)), TP.eq (.pointer (some ⟨xb, xo + i, none⟩)), TP.eq (.bool false), TP.eq (.bool false), TP.eq undef, TP.eq undef, TP.eq undef, TP.eq undef, TP.eq undef, TP.eq (.bool false), TP.eq (.bool false), TP.eq (.slice (some ⟨yb, yo, none⟩) l.length yc), TP.eq (.int .i64 (i : Int)), TP.eq (.pointer (some ⟨yb, yo + i, none⟩)), TP.eq (.bool true), TP.eq (.bool true), TP.eq (.slice (some ⟨yb, yo, none⟩) l.length yc), TP.eq (.int .i64 (k : Int)), TP.eq (.pointer (some ⟨yb, yo + k, none⟩)), TP.eq (.bool true), TP.eq (.bool false), TP.eq (.bool false), TP.eq (.bool false), TP.eq (.bool false)] [[], [], [0, 1], [2], [], [], [4, 5], [6], [3, 7], [8], [9], [9], [9, 10, 11], [9, 12], [9, 13], [14], [14], [14, 15, 16], [14, 17], [14, 18], [9, 14, 19], [9, 20], [21], [21], [21, 22, 23], [21, 24], [21, 25], [26], [26], [26, 27, 28], [26, 29], [26, 30], [21, 26, 31], [9, 21, 32], [9, 33]] (by kernel_rfl) (by kernel_rfl) ⟨?o0w, ?o1w, ?o2w, ?o3w, ?o4w, ?o5w, ?o6w, ?o7w, ?o8w, ?o9w, ?o10w, ?o11w, ?o12w, ?o13w, ?o14w, ?o15w, ?o16w, ?o17w, ?o18w, ?o19w, ?o20w, ?o21w, ?o22w, ?o23w, ?o24w, ?o25w, ?o26w, ?o27w, ?o28w, ?o29w, ?o30w, ?o31w, ?o32w, ?o33w, ?o34w, trivial⟩ ?_
                  case o0w =>
                    intro w' hb
                    show wpList _ _ _ _ _ _
                    go_wp2
                    exact ⟨rfl, Below.refl _ _, rfl⟩
                  case o1w =>
                    intro w' hb
                    show wpList _ _ _ _ _ _
                    go_wp2
                    exact ⟨rfl, Below.refl _ _, rfl⟩
                  case o2w =>
                    intro w' hb v1 hv1 v2 hv2
                    obtain rfl : v1 = _ := hv1
                    obtain rfl : v2 = _ := hv2
                    show wpList _ _ _ _ _ _
                    simp only [Grow.dstOf, List.getElem?_toArray, List.getElem?_cons_succ, List.getElem?_cons_zero, Option.bind_some, Act.put, List.setIfInBounds_toArray, List.set_cons_succ, List.set_cons_zero]
                    go_wp2
                    exact ⟨rfl, Below.refl _ _, rfl⟩
                  case o3w =>
                    intro w' hb v1 hv1
                    obtain rfl : v1 = _ := hv1
                    have d0' : w'.cell? ⟨pb, po + i * 2, none⟩ = some (.string (showN (vL l i))) := (hb.cell (World.block_lt_of_cell? _ _ d0)).trans d0
                    have d1' : w'.cell? ⟨pb, po + i * 2 + 1, none⟩ = some (.string (showD (vL l i))) := (hb.cell (World.block_lt_of_cell? _ _ d1)).trans d1
                    show wpList _ _ _ _ _ _
                    simp only [Grow.dstOf, List.getElem?_toArray, List.getElem?_cons_succ, List.getElem?_cons_zero, Option.bind_some, Act.put, List.setIfInBounds_toArray, List.set_cons_succ, List.set_cons_zero]
                    go_wp2
                    exact ⟨rfl, Below.refl _ _, rfl⟩
                  case o4w =>
                    intro w' hb
                    show wpList _ _ _ _ _ _
                    go_wp2
                    exact ⟨rfl, Below.refl _ _, rfl⟩
                  case o5w =>
                    intro w' hb
                    show wpList _ _ _ _ _ _
                    go_wp2
                    exact ⟨rfl, Below.refl _ _, rfl⟩
                  case o6w =>
                    intro w' hb v1 hv1 v2 hv2
                    obtain rfl : v1 = _ := hv1
                    obtain rfl : v2 = _ := hv2
                    show wpList _ _ _ _ _ _
                    simp only [Grow.dstOf, List.getElem?_toArray, List.getElem?_cons_succ, List.getElem?_cons_zero, Option.bind_some, Act.put, List.setIfInBounds_toArray, List.set_cons_succ, List.set_cons_zero]
                    go_wp2
                    exact ⟨rfl, Below.refl _ _, rfl⟩
                  case o7w =>
                    intro w' hb v1 hv1
                    obtain rfl : v1 = _ := hv1
                    have e0' : w'.cell? ⟨pb, po + k * 2, none⟩ = some (.string (showN (vL l k))) := (hb.cell (World.block_lt_of_cell? _ _ e0)).trans e0
                    have e1' : w'.cell? ⟨pb, po + k * 2 + 1, none⟩ = some (.string (showD (vL l k))) := (hb.cell (World.block_lt_of_cell? _ _ e1)).trans e1
                    show wpList _ _ _ _ _ _
                    simp only [Grow.dstOf, List.getElem?_toArray, List.getElem?_cons_succ, List.getElem?_cons_zero, Option.bind_some, Act.put, List.setIfInBounds_toArray, List.set_cons_succ, List.set_cons_zero]
                    go_wp2
                    exact ⟨rfl, Below.refl _ _, rfl⟩
                  case o8w =>
                    intro w' hb v1 hv1 v2 hv2
                    obtain rfl : v1 = _ := hv1
                    obtain rfl : v2 = _ := hv2
                    show wpList _ _ _ _ _ _
                    simp only [Grow.dstOf, List.getElem?_toArray, List.getElem?_cons_succ, List.getElem?_cons_zero, Option.bind_some, Act.put, List.setIfInBounds_toArray, List.set_cons_succ, List.set_cons_zero]
                    go_wp2_with fail
                    refine (less_is (vL l i) (vL l k) true HBB.out HFI.out HFK.out w' (HGW.out w' hb)).mono ?_
                    rintro e wz ⟨rfl, hbz⟩
                    go_wp2
                    exact ⟨rfl, hbz, rfl⟩
                  case o9w =>
                    intro w' hb v1 hv1
                    obtain rfl : v1 = _ := hv1
                    show wpList _ _ _ _ _ _
                    simp only [Grow.dstOf, List.getElem?_toArray, List.getElem?_cons_succ, List.getElem?_cons_zero, Option.bind_some, Act.put, List.setIfInBounds_toArray, List.set_cons_succ, List.set_cons_zero]
                    go_wp2
                    exact ⟨rfl, Below.refl _ _, rfl⟩
                  case o10w =>
                    intro w' hb v1 hv1
                    obtain rfl : v1 = _ := hv1
                    show wpList _ _ _ _ _ _
                    simp only [Grow.dstOf, List.getElem?_toArray, List.getElem?_cons_succ, List.getElem?_cons_zero, Option.bind_some, Act.put, List.setIfInBounds_toArray, List.set_cons_succ, List.set_cons_zero]
                    go_wp2
                    exact ⟨rfl, Below.refl _ _, rfl⟩
                  case o11w =>
                    intro w' hb v1 hv1
                    obtain rfl : v1 = _ := hv1
                    show wpList _ _ _ _ _ _
                    simp only [Grow.dstOf, List.getElem?_toArray, List.getElem?_cons_succ, List.getElem?_cons_zero, Option.bind_some, Act.put, List.setIfInBounds_toArray, List.set_cons_succ, List.set_cons_zero]
                    go_wp2
                    exact ⟨rfl, Below.refl _ _, rfl⟩
                  case o12w =>
                    intro w' hb v1 hv1 v2 hv2 v3 hv3
                    obtain rfl : v1 = _ := hv1
                    obtain rfl : v2 = _ := hv2
                    obtain rfl : v3 = _ := hv3
                    show wpList _ _ _ _ _ _
                    simp only [Grow.dstOf, List.getElem?_toArray, List.getElem?_cons_succ, List.getElem?_cons_zero, Option.bind_some, Act.put, List.setIfInBounds_toArray, List.set_cons_succ, List.set_cons_zero]
                    go_wp2
                    exact ⟨rfl, Below.refl _ _, rfl⟩
                  case o13w =>
                    intro w' hb v1 hv1 v2 hv2
                    obtain rfl : v1 = _ := hv1
                    obtain rfl : v2 = _ := hv2
                    have v_xi' : w'.cell? ⟨xb, xo + i, none⟩ = some (.bool false) := (hb.cell (World.block_lt_of_cell? _ _ v_xi)).trans v_xi
                    show wpList _ _ _ _ _ _
                    simp only [Grow.dstOf, List.getElem?_toArray, List.getElem?_cons_succ, List.getElem?_cons_zero, Option.bind_some, Act.put, List.setIfInBounds_toArray, List.set_cons_succ, List.set_cons_zero]
                    go_wp2
                    exact ⟨rfl, Below.refl _ _, rfl⟩
                  case o14w =>
                    intro w' hb v1 hv1 v2 hv2
                    obtain rfl : v1 = _ := hv1
                    obtain rfl : v2 = _ := hv2
                    show wpList _ _ _ _ _ _
                    simp only [Grow.dstOf, List.getElem?_toArray, List.getElem?_cons_succ, List.getElem?_cons_zero, Option.bind_some, Act.put, List.setIfInBounds_toArray, List.set_cons_succ, List.set_cons_zero]
                    go_wp2
                    exact ⟨rfl, Below.refl _ _, rfl⟩
                  case o15w =>
                    intro w' hb v1 hv1
                    obtain rfl : v1 = _ := hv1
                    show wpList _ _ _ _ _ _
                    simp only [Grow.dstOf, List.getElem?_toArray, List.getElem?_cons_succ, List.getElem?_cons_zero, Option.bind_some, Act.put, List.setIfInBounds_toArray, List.set_cons_succ, List.set_cons_zero]
                    go_wp2
                    exact ⟨rfl, Below.refl _ _, rfl⟩
                  case o16w =>
                    intro w' hb v1 hv1
                    obtain rfl : v1 = _ := hv1
                    show wpList _ _ _ _ _ _
                    simp only [Grow.dstOf, List.getElem?_toArray, List.getElem?_cons_succ, List.getElem?_cons_zero, Option.bind_some, Act.put, List.setIfInBounds_toArray, List.set_cons_succ, List.set_cons_zero]
                    go_wp2
                    exact ⟨rfl, Below.refl _ _, rfl⟩
                  case o17w =>
                    intro w' hb v1 hv1 v2 hv2 v3 hv3
                    obtain rfl : v1 = _ := hv1
                    obtain rfl : v2 = _ := hv2
                    obtain rfl : v3 = _ := hv3
                    show wpList _ _ _ _ _ _
                    simp only [Grow.dstOf, List.getElem?_toArray, List.getElem?_cons_succ, List.getElem?_cons_zero, Option.bind_some, Act.put, List.setIfInBounds_toArray, List.set_cons_succ, List.set_cons_zero]
                    go_wp2
                    exact ⟨rfl, Below.refl _ _, rfl⟩
                  case o18w =>
                    intro w' hb v1 hv1 v2 hv2
                    obtain rfl : v1 = _ := hv1
                    obtain rfl : v2 = _ := hv2
                    show wpList _ _ _ _ _ _
                    simp only [Grow.dstOf, List.getElem?_toArray, List.getElem?_cons_succ, List.getElem?_cons_zero, Option.bind_some, Act.put, List.setIfInBounds_toArray, List.set_cons_succ, List.set_cons_zero]
                    go_wp2
                    exact ⟨rfl, Below.refl _ _, rfl⟩
                  case o19w =>
                    intro w' hb v1 hv1 v2 hv2
                    obtain rfl : v1 = _ := hv1
                    obtain rfl : v2 = _ := hv2
                    show wpList _ _ _ _ _ _
                    simp only [Grow.dstOf, List.getElem?_toArray, List.getElem?_cons_succ, List.getElem?_cons_zero, Option.bind_some, Act.put, List.setIfInBounds_toArray, List.set_cons_succ, List.set_cons_zero]
                    go_wp2
                    exact ⟨rfl, Below.refl _ _, rfl⟩
                  case o20w =>
                    intro w' hb v1 hv1 v2 hv2 v3 hv3
                    obtain rfl : v1 = _ := hv1
                    obtain rfl : v2 = _ := hv2
                    obtain rfl : v3 = _ := hv3
                    show wpList _ _ _ _ _ _
                    simp only [Grow.dstOf, List.getElem?_toArray, List.getElem?_cons_succ, List.getElem?_cons_zero, Option.bind_some, Act.put, List.setIfInBounds_toArray, List.set_cons_succ, List.set_cons_zero]
                    go_wp2
                    exact ⟨rfl, Below.refl _ _, rfl⟩
                  case o21w =>
                    intro w' hb v1 hv1 v2 hv2
                    obtain rfl : v1 = _ := hv1
                    obtain rfl : v2 = _ := hv2
                    show wpList _ _ _ _ _ _
                    simp only [Grow.dstOf, List.getElem?_toArray, List.getElem?_cons_succ, List.getElem?_cons_zero, Option.bind_some, Act.put, List.setIfInBounds_toArray, List.set_cons_succ, List.set_cons_zero]
                    go_wp2
                    exact ⟨rfl, Below.refl _ _, rfl⟩
                  case o22w =>
                    intro w' hb v1 hv1
                    obtain rfl : v1 = _ := hv1
                    show wpList _ _ _ _ _ _
                    simp only [Grow.dstOf, List.getElem?_toArray, List.getElem?_cons_succ, List.getElem?_cons_zero, Option.bind_some, Act.put, List.setIfInBounds_toArray, List.set_cons_succ, List.set_cons_zero]
                    go_wp2
                    exact ⟨rfl, Below.refl _ _, rfl⟩
                  case o23w =>
                    intro w' hb v1 hv1
                    obtain rfl : v1 = _ := hv1
                    show wpList _ _ _ _ _ _
                    simp only [Grow.dstOf, List.getElem?_toArray, List.getElem?_cons_succ, List.getElem?_cons_zero, Option.bind_some, Act.put, List.setIfInBounds_toArray, List.set_cons_succ, List.set_cons_zero]
                    go_wp2
                    exact ⟨rfl, Below.refl _ _, rfl⟩
                  case o24w =>
                    intro w' hb v1 hv1 v2 hv2 v3 hv3
                    obtain rfl : v1 = _ := hv1
                    obtain rfl : v2 = _ := hv2
                    obtain rfl : v3 = _ := hv3
                    show wpList _ _ _ _ _ _
                    simp only [Grow.dstOf, List.getElem?_toArray, List.getElem?_cons_succ, List.getElem?_cons_zero, Option.bind_some, Act.put, List.setIfInBounds_toArray, List.set_cons_succ, List.set_cons_zero]
                    go_wp2
                    exact ⟨rfl, Below.refl _ _, rfl⟩
                  case o25w =>
                    intro w' hb v1 hv1 v2 hv2
                    obtain rfl : v1 = _ := hv1
                    obtain rfl : v2 = _ := hv2
                    have v_yi' : w'.cell? ⟨yb, yo + i, none⟩ = some (.bool true) := (hb.cell (World.block_lt_of_cell? _ _ v_yi)).trans v_yi
                    show wpList _ _ _ _ _ _
                    simp only [Grow.dstOf, List.getElem?_toArray, List.getElem?_cons_succ, List.getElem?_cons_zero, Option.bind_some, Act.put, List.setIfInBounds_toArray, List.set_cons_succ, List.set_cons_zero]
                    go_wp2
                    exact ⟨rfl, Below.refl _ _, rfl⟩
                  case o26w =>
                    intro w' hb v1 hv1 v2 hv2
                    obtain rfl : v1 = _ := hv1
                    obtain rfl : v2 = _ := hv2
                    show wpList _ _ _ _ _ _
                    simp only [Grow.dstOf, List.getElem?_toArray, List.getElem?_cons_succ, List.getElem?_cons_zero, Option.bind_some, Act.put, List.setIfInBounds_toArray, List.set_cons_succ, List.set_cons_zero]
                    go_wp2
                    exact ⟨rfl, Below.refl _ _, rfl⟩
                  case o27w =>
                    intro w' hb v1 hv1
                    obtain rfl : v1 = _ := hv1
                    show wpList _ _ _ _ _ _
                    simp only [Grow.dstOf, List.getElem?_toArray, List.getElem?_cons_succ, List.getElem?_cons_zero, Option.bind_some, Act.put, List.setIfInBounds_toArray, List.set_cons_succ, List.set_cons_zero]
                    go_wp2
                    exact ⟨rfl, Below.refl _ _, rfl⟩
                  case o28w =>
                    intro w' hb v1 hv1
                    obtain rfl : v1 = _ := hv1
                    show wpList _ _ _ _ _ _
                    simp only [Grow.dstOf, List.getElem?_toArray, List.getElem?_cons_succ, List.getElem?_cons_zero, Option.bind_some, Act.put, List.setIfInBounds_toArray, List.set_cons_succ, List.set_cons_zero]
                    go_wp2
                    exact ⟨rfl, Below.refl _ _, rfl⟩
                  case o29w =>
                    intro w' hb v1 hv1 v2 hv2 v3 hv3
                    obtain rfl : v1 = _ := hv1
                    obtain rfl : v2 = _ := hv2
                    obtain rfl : v3 = _ := hv3
                    show wpList _ _ _ _ _ _
                    simp only [Grow.dstOf, List.getElem?_toArray, List.getElem?_cons_succ, List.getElem?_cons_zero, Option.bind_some, Act.put, List.setIfInBounds_toArray, List.set_cons_succ, List.set_cons_zero]
                    go_wp2
                    exact ⟨rfl, Below.refl _ _, rfl⟩
                  case o30w =>
                    intro w' hb v1 hv1 v2 hv2
                    obtain rfl : v1 = _ := hv1
                    obtain rfl : v2 = _ := hv2
                    have v_yk' : w'.cell? ⟨yb, yo + k, none⟩ = some (.bool true) := (hb.cell (World.block_lt_of_cell? _ _ v_yk)).trans v_yk
                    show wpList _ _ _ _ _ _
                    simp only [Grow.dstOf, List.getElem?_toArray, List.getElem?_cons_succ, List.getElem?_cons_zero, Option.bind_some, Act.put, List.setIfInBounds_toArray, List.set_cons_succ, List.set_cons_zero]
                    go_wp2
                    exact ⟨rfl, Below.refl _ _, rfl⟩
                  case o31w =>
                    intro w' hb v1 hv1 v2 hv2
                    obtain rfl : v1 = _ := hv1
                    obtain rfl : v2 = _ := hv2
                    show wpList _ _ _ _ _ _
                    simp only [Grow.dstOf, List.getElem?_toArray, List.getElem?_cons_succ, List.getElem?_cons_zero, Option.bind_some, Act.put, List.setIfInBounds_toArray, List.set_cons_succ, List.set_cons_zero]
                    go_wp2
                    exact ⟨rfl, Below.refl _ _, rfl⟩
                  case o32w =>
                    intro w' hb v1 hv1 v2 hv2 v3 hv3
                    obtain rfl : v1 = _ := hv1
                    obtain rfl : v2 = _ := hv2
                    obtain rfl : v3 = _ := hv3
                    show wpList _ _ _ _ _ _
                    simp only [Grow.dstOf, List.getElem?_toArray, List.getElem?_cons_succ, List.getElem?_cons_zero, Option.bind_some, Act.put, List.setIfInBounds_toArray, List.set_cons_succ, List.set_cons_zero]
                    go_wp2
                    exact ⟨rfl, Below.refl _ _, rfl⟩
                  case o33w =>
                    intro w' hb v1 hv1 v2 hv2 v3 hv3
                    obtain rfl : v1 = _ := hv1
                    obtain rfl : v2 = _ := hv2
                    obtain rfl : v3 = _ := hv3
                    show wpList _ _ _ _ _ _
                    simp only [Grow.dstOf, List.getElem?_toArray, List.getElem?_cons_succ, List.getElem?_cons_zero, Option.bind_some, Act.put, List.setIfInBounds_toArray, List.set_cons_succ, List.set_cons_zero]
                    go_wp2
                    exact ⟨rfl, Below.refl _ _, rfl⟩
                  case o34w =>
                    intro w' hb v1 hv1 v2 hv2
                    obtain rfl : v1 = _ := hv1
                    obtain rfl : v2 = _ := hv2
                    show wpList _ _ _ _ _ _
                    simp only [Grow.dstOf, List.getElem?_toArray, List.getElem?_cons_succ, List.getElem?_cons_zero, Option.bind_some, Act.put, List.setIfInBounds_toArray, List.set_cons_succ, List.set_cons_zero]
                    go_wp2
                    exact ⟨rfl, Below.refl _ _, rfl⟩
                  intro V2 hbz u0 hu0 u1 hu1 u2 hu2 u3 hu3 u4 hu4 u5 hu5 u6 hu6 u7 hu7 u8 hu8 u9 hu9 u10 hu10 u11 hu11 u12 hu12 u13 hu13 u14 hu14 u15 hu15 u16 hu16 u17 hu17 u18 hu18 u19 hu19 u20 hu20 u21 hu21 u22 hu22 u23 hu23 u24 hu24 u25 hu25 u26 hu26 u27 hu27 u28 hu28 u29 hu29 u30 hu30 u31 hu31 u32 hu32 u33 hu33 u34 hu34
                  obtain rfl : u34 = _ := hu34
                  clear hu0 hu1 hu2 hu3 hu4 hu5 hu6 hu7 hu8 hu9 hu10 hu11 hu12 hu13 hu14 hu15 hu16 hu17 hu18 hu19 hu20 hu21 hu22 hu23 hu24 hu25 hu26 hu27 hu28 hu29 hu30 hu31 hu32 hu33
                  refine tail_none (P := Tryz.prog) (ops := #[]) ?_
                  simp only [Act.put, List.setIfInBounds_toArray, List.set_cons_succ, List.set_cons_zero]
                  clear d0 d1 e0 e1 v_xi v_xk v_yi v_yk HGW
                  replace HB2 := Lib.hid (ext_trans HB2.out hbz)
                  clear hbz
                  go_wp2
                  go_roundw
                  case rel => exact ⟨k + 1, by omega, by go_num, HB2⟩
                  case measure => simp [intOf]; omega
              · have hki : k = l.length := by omega
                replace HBL := Lib.hid (HBL.out.trans (HB2.out.mono hsb))
                clear c_xi c_yi
                go_wp2
                go_roundw
                case rel => exact ⟨i + 1, by omega, by go_num, HBL⟩
                case measure => simp [intOf]; omega
        · cases yi
          · have h9 := HWI.out.sub i hlt HXI.out
            rw [HYI.out] at h9
            cases h9
          · go_wp2
            go_loopw [66] (fun s wr => ∃ k : Nat, k ≤ l.length ∧ s = .int .i64 (k : Int) ∧ Hid (Below X.heap.size X wr)) (fun s _ => l.length - (intOf s).toNat)
            case atStart => exact ⟨0, by omega, rfl, HB2⟩
            case round =>
              clear HB2
              obtain ⟨k, hk, rfl, HB2⟩ := hrel
              generalize hV : wr = V at *
              clear hV
              have hsb : w4'.heap.size ≤ X.heap.size := HBL.out.size
              by_cases hlk : k < l.length
              · obtain ⟨xk, hxk⟩ : ∃ b, LH.getD k false = b := ⟨_, rfl⟩
                obtain ⟨yk, hyk⟩ : ∃ b, LS.getD k false = b := ⟨_, rfl⟩
                have HXK := Lib.hid hxk
                have HYK := Lib.hid hyk
                clear hxk hyk
                have HGV : Hid (Below w4'.heap.size w4' V) := Lib.hid (HBL.out.trans (HB2.out.mono hsb))
                have HGW : Hid (∀ w', Below V.heap.size V w' → Tab w') := Lib.hid fun w' hb => HT0.out.ext (ext_trans HW.out (HGV.out.trans (hb.mono HGV.out.size)))
                obtain ⟨pb, po, rfl, hd0, hd1⟩ := rt_elem HAF.out HSL.out hlt
                obtain ⟨pb2, po2, hp2, he0, he1⟩ := rt_elem HAF.out HSL.out hlk
                cases hp2
                have HFI := Lib.hid (vL_fits HAF.out hlt)
                have HFK := Lib.hid (vL_fits HAF.out hlk)
                have d0 : V.cell? ⟨pb, po + i * 2, none⟩ = some (.string (showN (vL l i))) := (HGV.out.cell (World.block_lt_of_cell? _ _ hd0)).trans hd0
                have d1 : V.cell? ⟨pb, po + i * 2 + 1, none⟩ = some (.string (showD (vL l i))) := (HGV.out.cell (World.block_lt_of_cell? _ _ hd1)).trans hd1
                have e0 : V.cell? ⟨pb, po + k * 2, none⟩ = some (.string (showN (vL l k))) := (HGV.out.cell (World.block_lt_of_cell? _ _ he0)).trans he0
                have e1 : V.cell? ⟨pb, po + k * 2 + 1, none⟩ = some (.string (showD (vL l k))) := (HGV.out.cell (World.block_lt_of_cell? _ _ he1)).trans he1
                have v_xi : V.cell? ⟨xb, xo + i, none⟩ = some (.bool true) := by obtain ⟨_, _, e, h⟩ := sl_addr (S_x.out.ext HGV.out) (bcs_at (i := i) (by rw [HLH.out]; exact hlt)); cases e; rw [HXI.out] at h; exact h
                have v_xk : V.cell? ⟨xb, xo + k, none⟩ = some (.bool xk) := by obtain ⟨_, _, e, h⟩ := sl_addr (S_x.out.ext HGV.out) (bcs_at (i := k) (by rw [HLH.out]; exact hlk)); cases e; rw [HXK.out] at h; exact h
                have v_yi : V.cell? ⟨yb, yo + i, none⟩ = some (.bool true) := by obtain ⟨_, _, e, h⟩ := sl_addr (S_y.out.ext HGV.out) (bcs_at (i := i) (by rw [HLS.out]; exact hlt)); cases e; rw [HYI.out] at h; exact h
                have v_yk : V.cell? ⟨yb, yo + k, none⟩ = some (.bool yk) := by obtain ⟨_, _, e, h⟩ := sl_addr (S_y.out.ext HGV.out) (bcs_at (i := k) (by rw [HLS.out]; exact hlk)); cases e; rw [HYK.out] at h; exact h
                obtain ⟨b, hb⟩ : ∃ b, decide (vL l i < vL l k) = b := ⟨_, rfl⟩
                have HBB := Lib.hid hb
                clear hb
                have hk0 : (0 : Int) ≤ (k : Int) := Int.natCast_nonneg _
                have hk1 : (k : Int) < (l.length : Int) := by omega
                have hk3 : (k : Int).toNat = k := by omega
                clear hd0 hd1 he0 he1 c_xi c_yi
                cases b
                · go_upto_region 15 with (fail)
                  refine Grow.wp_region_grow 35 [TP.eq (.slice (some ⟨pb, po, none⟩) l.length c), TP.eq (.int .i64 (i : Int)), TP.eq (.pointer (some ⟨pb, po + i * 2, none⟩)), TP.eq (.agg #[.string (showN (vL l i)), .string (showD (vL l i))]), TP.eq (.slice (some ⟨pb, po, none⟩) l.length c), TP.eq (.int .i64 (k : Int)), TP.eq (.pointer (some ⟨pb, po + k * 2, none⟩)), TP.eq (.agg #[.string (showN (vL l k)), .string (showD (vL l k))]), TP.eq (.bool false), TP.eq (.bool false), TP.eq undef, TP.eq undef, TP.eq undef, TP.eq undef, TP.eq undef, TP.eq undef, TP.eq undef, TP.eq undef, TP.eq undef, TP.eq undef, TP.eq undef, TP.eq undef, TP.eq undef, TP.eq undef, TP.eq undef, TP.eq undef, TP.eq undef, TP.eq undef, TP.eq undef, TP.eq undef, TP.eq undef, TP.eq undef, TP.eq undef, TP.eq undef, TP.eq (.bool false)] [[], [], [0, 1], [2], [], [], [4, 5], [6], [3, 7], [8], [9], [9], [9, 10, 11], [9, 12], [9, 13], [14], [14], [14, 15, 16], [14, 17], [14, 18], [9, 14, 19], [9, 20], [21], [21], [21, 22, 23], [21, 24], [21, 25], [26], [26], [26, 27, 28], [26, 29], [26, 30], [21, 26, 31], [9, 21, 32], [9, 33]] (by kernel_rfl) (by kernel_rfl) ⟨?o0w, ?o1w, ?o2w, ?o3w, ?o4w, ?o5w, ?o6w, ?o7w, ?o8w, ?o9w, ?o10w, ?o11w, ?o12w, ?o13w, ?o14w, ?o15w, ?o16w, ?o17w, ?o18w, ?o19w, ?o20w, ?o21w, ?o22w, ?o23w, ?o24w, ?o25w, ?o26w, ?o27w, ?o28w, ?o29w, ?o30w, ?o31w, ?o32w, ?o33w, ?o34w, trivial⟩ ?_
                  case o0w =>
                    intro w' hb
                    show wpList _ _ _ _ _ _
                    go_wp2
                    exact ⟨rfl, Below.refl _ _, rfl⟩
                  case o1w =>
                    intro w' hb
                    show wpList _ _ _ _ _ _
                    go_wp2
                    exact ⟨rfl, Below.refl _ _, rfl⟩
                  case o2w =>
                    intro w' hb v1 hv1 v2 hv2
                    obtain rfl : v1 = _ := hv1
                    obtain rfl : v2 = _ := hv2
                    show wpList _ _ _ _ _ _
                    simp only [Grow.dstOf, List.getElem?_toArray, List.getElem?_cons_succ, List.getElem?_cons_zero, Option.bind_some, Act.put, List.setIfInBounds_toArray, List.set_cons_succ, List.set_cons_zero]
                    go_wp2
                    exact ⟨rfl, Below.refl _ _, rfl⟩
                  case o3w =>
                    intro w' hb v1 hv1
                    obtain rfl : v1 = _ := hv1
                    have d0' : w'.cell? ⟨pb, po + i * 2, none⟩ = some (.string (showN (vL l i))) := (hb.cell (World.block_lt_of_cell? _ _ d0)).trans d0
                    have d1' : w'.cell? ⟨pb, po + i * 2 + 1, none⟩ = some (.string (showD (vL l i))) := (hb.cell (World.block_lt_of_cell? _ _ d1)).trans d1
                    show wpList _ _ _ _ _ _
                    simp only [Grow.dstOf, List.getElem?_toArray, List.getElem?_cons_succ, List.getElem?_cons_zero, Option.bind_some, Act.put, List.setIfInBounds_toArray, List.set_cons_succ, List.set_cons_zero]
                    go_wp2
                    exact ⟨rfl, Below.refl _ _, rfl⟩
                  case o4w =>
                    intro w' hb
                    show wpList _ _ _ _ _ _
                    go_wp2
                    exact ⟨rfl, Below.refl _ _, rfl⟩
                  case o5w =>
                    intro w' hb
                    show wpList _ _ _ _ _ _
                    go_wp2
                    exact ⟨rfl, Below.refl _ _, rfl⟩
                  case o6w =>
                    intro w' hb v1 hv1 v2 hv2
                    obtain rfl : v1 = _ := hv1
                    obtain rfl : v2 = _ := hv2
                    show wpList _ _ _ _ _ _
                    simp only [Grow.dstOf, List.getElem?_toArray, List.getElem?_cons_succ, List.getElem?_cons_zero, Option.bind_some, Act.put, List.setIfInBounds_toArray, List.set_cons_succ, List.set_cons_zero]
                    go_wp2
                    exact ⟨rfl, Below.refl _ _, rfl⟩
                  case o7w =>
                    intro w' hb v1 hv1
                    obtain rfl : v1 = _ := hv1
                    have e0' : w'.cell? ⟨pb, po + k * 2, none⟩ = some (.string (showN (vL l k))) := (hb.cell (World.block_lt_of_cell? _ _ e0)).trans e0
                    have e1' : w'.cell? ⟨pb, po + k * 2 + 1, none⟩ = some (.string (showD (vL l k))) := (hb.cell (World.block_lt_of_cell? _ _ e1)).trans e1
                    show wpList _ _ _ _ _ _
                    simp only [Grow.dstOf, List.getElem?_toArray, List.getElem?_cons_succ, List.getElem?_cons_zero, Option.bind_some, Act.put, List.setIfInBounds_toArray, List.set_cons_succ, List.set_cons_zero]
                    go_wp2
                    exact ⟨rfl, Below.refl _ _, rfl⟩
                  case o8w =>
                    intro w' hb v1 hv1 v2 hv2
                    obtain rfl : v1 = _ := hv1
                    obtain rfl : v2 = _ := hv2
                    show wpList _ _ _ _ _ _
                    simp only [Grow.dstOf, List.getElem?_toArray, List.getElem?_cons_succ, List.getElem?_cons_zero, Option.bind_some, Act.put, List.setIfInBounds_toArray, List.set_cons_succ, List.set_cons_zero]
                    go_wp2_with fail
                    refine (less_is (vL l i) (vL l k) false HBB.out HFI.out HFK.out w' (HGW.out w' hb)).mono ?_
                    rintro e wz ⟨rfl, hbz⟩
                    go_wp2
                    exact ⟨rfl, hbz, rfl⟩
                  case o9w =>
                    intro w' hb v1 hv1
                    obtain rfl : v1 = _ := hv1
                    show wpList _ _ _ _ _ _
                    simp only [Grow.dstOf, List.getElem?_toArray, List.getElem?_cons_succ, List.getElem?_cons_zero, Option.bind_some, Act.put, List.setIfInBounds_toArray, List.set_cons_succ, List.set_cons_zero]
                    go_wp2
                    exact ⟨rfl, Below.refl _ _, rfl⟩
                  case o10w =>
                    intro w' hb v1 hv1
                    obtain rfl : v1 = _ := hv1
                    show wpList _ _ _ _ _ _
                    simp only [Grow.dstOf, List.getElem?_toArray, List.getElem?_cons_succ, List.getElem?_cons_zero, Option.bind_some, Act.put, List.setIfInBounds_toArray, List.set_cons_succ, List.set_cons_zero]
                    go_wp2
                    exact ⟨rfl, Below.refl _ _, rfl⟩
                  case o11w =>
                    intro w' hb v1 hv1
                    obtain rfl : v1 = _ := hv1
                    show wpList _ _ _ _ _ _
                    simp only [Grow.dstOf, List.getElem?_toArray, List.getElem?_cons_succ, List.getElem?_cons_zero, Option.bind_some, Act.put, List.setIfInBounds_toArray, List.set_cons_succ, List.set_cons_zero]
                    go_wp2
                    exact ⟨rfl, Below.refl _ _, rfl⟩
                  case o12w =>
                    intro w' hb v1 hv1 v2 hv2 v3 hv3
                    obtain rfl : v1 = _ := hv1
                    obtain rfl : v2 = _ := hv2
                    obtain rfl : v3 = _ := hv3
                    show wpList _ _ _ _ _ _
                    simp only [Grow.dstOf, List.getElem?_toArray, List.getElem?_cons_succ, List.getElem?_cons_zero, Option.bind_some, Act.put, List.setIfInBounds_toArray, List.set_cons_succ, List.set_cons_zero]
                    go_wp2
                    exact ⟨rfl, Below.refl _ _, rfl⟩
                  case o13w =>
                    intro w' hb v1 hv1 v2 hv2
                    obtain rfl : v1 = _ := hv1
                    obtain rfl : v2 = _ := hv2
                    show wpList _ _ _ _ _ _
                    simp only [Grow.dstOf, List.getElem?_toArray, List.getElem?_cons_succ, List.getElem?_cons_zero, Option.bind_some, Act.put, List.setIfInBounds_toArray, List.set_cons_succ, List.set_cons_zero]
                    go_wp2
                    exact ⟨rfl, Below.refl _ _, rfl⟩
                  case o14w =>
                    intro w' hb v1 hv1 v2 hv2
                    obtain rfl : v1 = _ := hv1
                    obtain rfl : v2 = _ := hv2
                    show wpList _ _ _ _ _ _
                    simp only [Grow.dstOf, List.getElem?_toArray, List.getElem?_cons_succ, List.getElem?_cons_zero, Option.bind_some, Act.put, List.setIfInBounds_toArray, List.set_cons_succ, List.set_cons_zero]
                    go_wp2
                    exact ⟨rfl, Below.refl _ _, rfl⟩
                  case o15w =>
                    intro w' hb v1 hv1
                    obtain rfl : v1 = _ := hv1
                    show wpList _ _ _ _ _ _
                    simp only [Grow.dstOf, List.getElem?_toArray, List.getElem?_cons_succ, List.getElem?_cons_zero, Option.bind_some, Act.put, List.setIfInBounds_toArray, List.set_cons_succ, List.set_cons_zero]
                    go_wp2
                    exact ⟨rfl, Below.refl _ _, rfl⟩
                  case o16w =>
                    intro w' hb v1 hv1
                    obtain rfl : v1 = _ := hv1
                    show wpList _ _ _ _ _ _
                    simp only [Grow.dstOf, List.getElem?_toArray, List.getElem?_cons_succ, List.getElem?_cons_zero, Option.bind_some, Act.put, List.setIfInBounds_toArray, List.set_cons_succ, List.set_cons_zero]
                    go_wp2
                    exact ⟨rfl, Below.refl _ _, rfl⟩
                  case o17w =>
                    intro w' hb v1 hv1 v2 hv2 v3 hv3
                    obtain rfl : v1 = _ := hv1
                    obtain rfl : v2 = _ := hv2
                    obtain rfl : v3 = _ := hv3
                    show wpList _ _ _ _ _ _
                    simp only [Grow.dstOf, List.getElem?_toArray, List.getElem?_cons_succ, List.getElem?_cons_zero, Option.bind_some, Act.put, List.setIfInBounds_toArray, List.set_cons_succ, List.set_cons_zero]
                    go_wp2
                    exact ⟨rfl, Below.refl _ _, rfl⟩
                  case o18w =>
                    intro w' hb v1 hv1 v2 hv2
                    obtain rfl : v1 = _ := hv1
                    obtain rfl : v2 = _ := hv2
                    show wpList _ _ _ _ _ _
                    simp only [Grow.dstOf, List.getElem?_toArray, List.getElem?_cons_succ, List.getElem?_cons_zero, Option.bind_some, Act.put, List.setIfInBounds_toArray, List.set_cons_succ, List.set_cons_zero]
                    go_wp2
                    exact ⟨rfl, Below.refl _ _, rfl⟩
                  case o19w =>
                    intro w' hb v1 hv1 v2 hv2
                    obtain rfl : v1 = _ := hv1
                    obtain rfl : v2 = _ := hv2
                    show wpList _ _ _ _ _ _
                    simp only [Grow.dstOf, List.getElem?_toArray, List.getElem?_cons_succ, List.getElem?_cons_zero, Option.bind_some, Act.put, List.setIfInBounds_toArray, List.set_cons_succ, List.set_cons_zero]
                    go_wp2
                    exact ⟨rfl, Below.refl _ _, rfl⟩
                  case o20w =>
                    intro w' hb v1 hv1 v2 hv2 v3 hv3
                    obtain rfl : v1 = _ := hv1
                    obtain rfl : v2 = _ := hv2
                    obtain rfl : v3 = _ := hv3
                    show wpList _ _ _ _ _ _
                    simp only [Grow.dstOf, List.getElem?_toArray, List.getElem?_cons_succ, List.getElem?_cons_zero, Option.bind_some, Act.put, List.setIfInBounds_toArray, List.set_cons_succ, List.set_cons_zero]
                    go_wp2
                    exact ⟨rfl, Below.refl _ _, rfl⟩
                  case o21w =>
                    intro w' hb v1 hv1 v2 hv2
                    obtain rfl : v1 = _ := hv1
                    obtain rfl : v2 = _ := hv2
                    show wpList _ _ _ _ _ _
                    simp only [Grow.dstOf, List.getElem?_toArray, List.getElem?_cons_succ, List.getElem?_cons_zero, Option.bind_some, Act.put, List.setIfInBounds_toArray, List.set_cons_succ, List.set_cons_zero]
                    go_wp2
                    exact ⟨rfl, Below.refl _ _, rfl⟩
                  case o22w =>
                    intro w' hb v1 hv1
                    obtain rfl : v1 = _ := hv1
                    show wpList _ _ _ _ _ _
                    simp only [Grow.dstOf, List.getElem?_toArray, List.getElem?_cons_succ, List.getElem?_cons_zero, Option.bind_some, Act.put, List.setIfInBounds_toArray, List.set_cons_succ, List.set_cons_zero]
                    go_wp2
                    exact ⟨rfl, Below.refl _ _, rfl⟩
                  case o23w =>
                    intro w' hb v1 hv1
                    obtain rfl : v1 = _ := hv1
                    show wpList _ _ _ _ _ _
                    simp only [Grow.dstOf, List.getElem?_toArray, List.getElem?_cons_succ, List.getElem?_cons_zero, Option.bind_some, Act.put, List.setIfInBounds_toArray, List.set_cons_succ, List.set_cons_zero]
                    go_wp2
                    exact ⟨rfl, Below.refl _ _, rfl⟩
                  case o24w =>
                    intro w' hb v1 hv1 v2 hv2 v3 hv3
                    obtain rfl : v1 = _ := hv1
                    obtain rfl : v2 = _ := hv2
                    obtain rfl : v3 = _ := hv3
                    show wpList _ _ _ _ _ _
                    simp only [Grow.dstOf, List.getElem?_toArray, List.getElem?_cons_succ, List.getElem?_cons_zero, Option.bind_some, Act.put, List.setIfInBounds_toArray, List.set_cons_succ, List.set_cons_zero]
                    go_wp2
                    exact ⟨rfl, Below.refl _ _, rfl⟩
                  case o25w =>
                    intro w' hb v1 hv1 v2 hv2
                    obtain rfl : v1 = _ := hv1
                    obtain rfl : v2 = _ := hv2
                    show wpList _ _ _ _ _ _
                    simp only [Grow.dstOf, List.getElem?_toArray, List.getElem?_cons_succ, List.getElem?_cons_zero, Option.bind_some, Act.put, List.setIfInBounds_toArray, List.set_cons_succ, List.set_cons_zero]
                    go_wp2
                    exact ⟨rfl, Below.refl _ _, rfl⟩
                  case o26w =>
                    intro w' hb v1 hv1 v2 hv2
                    obtain rfl : v1 = _ := hv1
                    obtain rfl : v2 = _ := hv2
                    show wpList _ _ _ _ _ _
                    simp only [Grow.dstOf, List.getElem?_toArray, List.getElem?_cons_succ, List.getElem?_cons_zero, Option.bind_some, Act.put, List.setIfInBounds_toArray, List.set_cons_succ, List.set_cons_zero]
                    go_wp2
                    exact ⟨rfl, Below.refl _ _, rfl⟩
                  case o27w =>
                    intro w' hb v1 hv1
                    obtain rfl : v1 = _ := hv1
                    show wpList _ _ _ _ _ _
                    simp only [Grow.dstOf, List.getElem?_toArray, List.getElem?_cons_succ, List.getElem?_cons_zero, Option.bind_some, Act.put, List.setIfInBounds_toArray, List.set_cons_succ, List.set_cons_zero]
                    go_wp2
                    exact ⟨rfl, Below.refl _ _, rfl⟩
                  case o28w =>
                    intro w' hb v1 hv1
                    obtain rfl : v1 = _ := hv1
                    show wpList _ _ _ _ _ _
                    simp only [Grow.dstOf, List.getElem?_toArray, List.getElem?_cons_succ, List.getElem?_cons_zero, Option.bind_some, Act.put, List.setIfInBounds_toArray, List.set_cons_succ, List.set_cons_zero]
                    go_wp2
                    exact ⟨rfl, Below.refl _ _, rfl⟩
                  case o29w =>
                    intro w' hb v1 hv1 v2 hv2 v3 hv3
                    obtain rfl : v1 = _ := hv1
                    obtain rfl : v2 = _ := hv2
                    obtain rfl : v3 = _ := hv3
                    show wpList _ _ _ _ _ _
                    simp only [Grow.dstOf, List.getElem?_toArray, List.getElem?_cons_succ, List.getElem?_cons_zero, Option.bind_some, Act.put, List.setIfInBounds_toArray, List.set_cons_succ, List.set_cons_zero]
                    go_wp2
                    exact ⟨rfl, Below.refl _ _, rfl⟩
                  case o30w =>
                    intro w' hb v1 hv1 v2 hv2
                    obtain rfl : v1 = _ := hv1
                    obtain rfl : v2 = _ := hv2
                    show wpList _ _ _ _ _ _
                    simp only [Grow.dstOf, List.getElem?_toArray, List.getElem?_cons_succ, List.getElem?_cons_zero, Option.bind_some, Act.put, List.setIfInBounds_toArray, List.set_cons_succ, List.set_cons_zero]
                    go_wp2
                    exact ⟨rfl, Below.refl _ _, rfl⟩
                  case o31w =>
                    intro w' hb v1 hv1 v2 hv2
                    obtain rfl : v1 = _ := hv1
                    obtain rfl : v2 = _ := hv2
                    show wpList _ _ _ _ _ _
                    simp only [Grow.dstOf, List.getElem?_toArray, List.getElem?_cons_succ, List.getElem?_cons_zero, Option.bind_some, Act.put, List.setIfInBounds_toArray, List.set_cons_succ, List.set_cons_zero]
                    go_wp2
                    exact ⟨rfl, Below.refl _ _, rfl⟩
                  case o32w =>
                    intro w' hb v1 hv1 v2 hv2 v3 hv3
                    obtain rfl : v1 = _ := hv1
                    obtain rfl : v2 = _ := hv2
                    obtain rfl : v3 = _ := hv3
                    show wpList _ _ _ _ _ _
                    simp only [Grow.dstOf, List.getElem?_toArray, List.getElem?_cons_succ, List.getElem?_cons_zero, Option.bind_some, Act.put, List.setIfInBounds_toArray, List.set_cons_succ, List.set_cons_zero]
                    go_wp2
                    exact ⟨rfl, Below.refl _ _, rfl⟩
                  case o33w =>
                    intro w' hb v1 hv1 v2 hv2 v3 hv3
                    obtain rfl : v1 = _ := hv1
                    obtain rfl : v2 = _ := hv2
                    obtain rfl : v3 = _ := hv3
                    show wpList _ _ _ _ _ _
                    simp only [Grow.dstOf, List.getElem?_toArray, List.getElem?_cons_succ, List.getElem?_cons_zero, Option.bind_some, Act.put, List.setIfInBounds_toArray, List.set_cons_succ, List.set_cons_zero]
                    go_wp2
                    exact ⟨rfl, Below.refl _ _, rfl⟩
                  case o34w =>
                    intro w' hb v1 hv1 v2 hv2
                    obtain rfl : v1 = _ := hv1
                    obtain rfl : v2 = _ := hv2
                    show wpList _ _ _ _ _ _
                    simp only [Grow.dstOf, List.getElem?_toArray, List.getElem?_cons_succ, List.getElem?_cons_zero, Option.bind_some, Act.put, List.setIfInBounds_toArray, List.set_cons_succ, List.set_cons_zero]
                    go_wp2
                    exact ⟨rfl, Below.refl _ _, rfl⟩
                  intro V2 hbz u0 hu0 u1 hu1 u2 hu2 u3 hu3 u4 hu4 u5 hu5 u6 hu6 u7 hu7 u8 hu8 u9 hu9 u10 hu10 u11 hu11 u12 hu12 u13 hu13 u14 hu14 u15 hu15 u16 hu16 u17 hu17 u18 hu18 u19 hu19 u20 hu20 u21 hu21 u22 hu22 u23 hu23 u24 hu24 u25 hu25 u26 hu26 u27 hu27 u28 hu28 u29 hu29 u30 hu30 u31 hu31 u32 hu32 u33 hu33 u34 hu34
                  obtain rfl : u34 = _ := hu34
                  clear hu0 hu1 hu2 hu3 hu4 hu5 hu6 hu7 hu8 hu9 hu10 hu11 hu12 hu13 hu14 hu15 hu16 hu17 hu18 hu19 hu20 hu21 hu22 hu23 hu24 hu25 hu26 hu27 hu28 hu29 hu30 hu31 hu32 hu33
                  refine tail_none (P := Tryz.prog) (ops := #[]) ?_
                  simp only [Act.put, List.setIfInBounds_toArray, List.set_cons_succ, List.set_cons_zero]
                  clear d0 d1 e0 e1 v_xi v_xk v_yi v_yk HGW
                  replace HB2 := Lib.hid (ext_trans HB2.out hbz)
                  clear hbz
                  go_wp2
                  go_roundw
                  case rel => exact ⟨k + 1, by omega, by go_num, HB2⟩
                  case measure => simp [intOf]; omega
                · obtain rfl : xk = true := by rw [← HXK.out]; exact HWI.out.mx i k hlt hlk (of_decide_eq_true HBB.out) HXI.out
                  obtain rfl : yk = true := by rw [← HYK.out]; exact HWI.out.my i k hlt hlk (of_decide_eq_true HBB.out) HYI.out
                  go_upto_region 15 with (fail)
                  refine Grow.wp_region_grow 35 [TP.eq (.slice (some ⟨pb, po, none⟩) l.length c), TP.eq (.int .i64 (i : Int)), TP.eq (.pointer (some ⟨pb, po + i * 2, none⟩)), TP.eq (.agg #[.string (showN (vL l i)), .string (showD (vL l i))]), TP.eq (.slice (some ⟨pb, po, none⟩) l.length c), TP.eq (.int .i64 (k : Int)), TP.eq (.pointer (some ⟨pb, po + k * 2, none⟩)), TP.eq (.agg #[.string (showN (vL l k)), .string (showD (vL l k))]), TP.eq (.bool true), TP.eq (.bool true), TP.eq (.slice (some ⟨xb, xo, none⟩) l.length xc), TP.eq (.int .i64 (i : Int)), TP.eq (.pointer (some ⟨xb, xo + i, none⟩)), TP.eq (.bool true), TP.eq (.bool true), TP.eq (.slice (some ⟨xb, xo, none⟩) l.length xc), TP.eq (.int .i64 (k : Int)), TP.eq (.pointer (some ⟨xb, xo + k, none⟩)), TP.eq (.bool true), TP.eq (.bool false), TP.eq (.bool false), TP.eq (.bool false), TP.eq (.slice (some ⟨yb, yo, none⟩) l.length yc), TP.eq (.int .i64 (i : Int)), TP.eq (.pointer (some ⟨yb, yo + i, none⟩)), TP.eq (.bool true), TP.eq (.bool true), TP.eq (.slice (some ⟨yb, yo, none⟩) l.length yc), TP.eq (.int .i64 (k : Int)), TP.eq (.pointer (some ⟨yb, yo + k, none⟩)), TP.eq (.bool true), TP.eq (.bool false), TP.eq (.bool false), TP.eq (.bool false), TP.eq (.bool false)] [[], [], [0, 1], [2], [], [], [4, 5], [6], [3, 7], [8], [9], [9], [9, 10, 11], [9, 12], [9, 13], [14], [14], [14, 15, 16], [14, 17], [14, 18], [9, 14, 19], [9, 20], [21], [21], [21, 22, 23], [21, 24], [21, 25], [26], [26], [26, 27, 28], [26, 29], [26, 30], [21, 26, 31], [9, 21, 32], [9, 33]] (by kernel_rfl) (by kernel_rfl) ⟨?o0w, ?o1w, ?o2w, ?o3w, ?o4w, ?o5w, ?o6w, ?o7w, ?o8w, ?o9w, ?o10w, ?o11w, ?o12w, ?o13w, ?o14w, ?o15w, ?o16w, ?o17w, ?o18w, ?o19w, ?o20w, ?o21w, ?o22w, ?o23w, ?o24w, ?o25w, ?o26w, ?o27w, ?o28w, ?o29w, ?o30w, ?o31w, ?o32w, ?o33w, ?o34w, trivial⟩ ?_
                  case o0w =>
                    intro w' hb
                    show wpList _ _ _ _ _ _
                    go_wp2
                    exact ⟨rfl, Below.refl _ _, rfl⟩
                  case o1w =>
                    intro w' hb
                    show wpList _ _ _ _ _ _
                    go_wp2
                    exact ⟨rfl, Below.refl _ _, rfl⟩
                  case o2w =>
                    intro w' hb v1 hv1 v2 hv2
                    obtain rfl : v1 = _ := hv1
                    obtain rfl : v2 = _ := hv2
                    show wpList _ _ _ _ _ _
                    simp only [Grow.dstOf, List.getElem?_toArray, List.getElem?_cons_succ, List.getElem?_cons_zero, Option.bind_some, Act.put, List.setIfInBounds_toArray, List.set_cons_succ, List.set_cons_zero]
                    go_wp2
                    exact ⟨rfl, Below.refl _ _, rfl⟩
                  case o3w =>
                    intro w' hb v1 hv1
                    obtain rfl : v1 = _ := hv1
                    have d0' : w'.cell? ⟨pb, po + i * 2, none⟩ = some (.string (showN (vL l i))) := (hb.cell (World.block_lt_of_cell? _ _ d0)).trans d0
                    have d1' : w'.cell? ⟨pb, po + i * 2 + 1, none⟩ = some (.string (showD (vL l i))) := (hb.cell (World.block_lt_of_cell? _ _ d1)).trans d1
                    show wpList _ _ _ _ _ _
                    simp only [Grow.dstOf, List.getElem?_toArray, List.getElem?_cons_succ, List.getElem?_cons_zero, Option.bind_some, Act.put, List.setIfInBounds_toArray, List.set_cons_succ, List.set_cons_zero]
                    go_wp2
                    exact ⟨rfl, Below.refl _ _, rfl⟩
                  case o4w =>
                    intro w' hb
                    show wpList _ _ _ _ _ _
                    go_wp2
                    exact ⟨rfl, Below.refl _ _, rfl⟩
                  case o5w =>
                    intro w' hb
                    show wpList _ _ _ _ _ _
                    go_wp2
                    exact ⟨rfl, Below.refl _ _, rfl⟩
                  case o6w =>
                    intro w' hb v1 hv1 v2 hv2
                    obtain rfl : v1 = _ := hv1
                    obtain rfl : v2 = _ := hv2
                    show wpList _ _ _ _ _ _
                    simp only [Grow.dstOf, List.getElem?_toArray, List.getElem?_cons_succ, List.getElem?_cons_zero, Option.bind_some, Act.put, List.setIfInBounds_toArray, List.set_cons_succ, List.set_cons_zero]
                    go_wp2
                    exact ⟨rfl, Below.refl _ _, rfl⟩
                  case o7w =>
                    intro w' hb v1 hv1
                    obtain rfl : v1 = _ := hv1
                    have e0' : w'.cell? ⟨pb, po + k * 2, none⟩ = some (.string (showN (vL l k))) := (hb.cell (World.block_lt_of_cell? _ _ e0)).trans e0
                    have e1' : w'.cell? ⟨pb, po + k * 2 + 1, none⟩ = some (.string (showD (vL l k))) := (hb.cell (World.block_lt_of_cell? _ _ e1)).trans e1
                    show wpList _ _ _ _ _ _
                    simp only [Grow.dstOf, List.getElem?_toArray, List.getElem?_cons_succ, List.getElem?_cons_zero, Option.bind_some, Act.put, List.setIfInBounds_toArray, List.set_cons_succ, List.set_cons_zero]
                    go_wp2
                    exact ⟨rfl, Below.refl _ _, rfl⟩
                  case o8w =>
                    intro w' hb v1 hv1 v2 hv2
                    obtain rfl : v1 = _ := hv1
                    obtain rfl : v2 = _ := hv2
                    show wpList _ _ _ _ _ _
                    simp only [Grow.dstOf, List.getElem?_toArray, List.getElem?_cons_succ, List.getElem?_cons_zero, Option.bind_some, Act.put, List.setIfInBounds_toArray, List.set_cons_succ, List.set_cons_zero]
                    go_wp2_with fail
                    refine (less_is (vL l i) (vL l k) true HBB.out HFI.out HFK.out w' (HGW.out w' hb)).mono ?_
                    rintro e wz ⟨rfl, hbz⟩
                    go_wp2
                    exact ⟨rfl, hbz, rfl⟩
                  case o9w =>
                    intro w' hb v1 hv1
                    obtain rfl : v1 = _ := hv1
                    show wpList _ _ _ _ _ _
                    simp only [Grow.dstOf, List.getElem?_toArray, List.getElem?_cons_succ, List.getElem?_cons_zero, Option.bind_some, Act.put, List.setIfInBounds_toArray, List.set_cons_succ, List.set_cons_zero]
                    go_wp2
                    exact ⟨rfl, Below.refl _ _, rfl⟩
                  case o10w =>
                    intro w' hb v1 hv1
                    obtain rfl : v1 = _ := hv1
                    show wpList _ _ _ _ _ _
                    simp only [Grow.dstOf, List.getElem?_toArray, List.getElem?_cons_succ, List.getElem?_cons_zero, Option.bind_some, Act.put, List.setIfInBounds_toArray, List.set_cons_succ, List.set_cons_zero]
                    go_wp2
                    exact ⟨rfl, Below.refl _ _, rfl⟩
                  case o11w =>
                    intro w' hb v1 hv1
                    obtain rfl : v1 = _ := hv1
                    show wpList _ _ _ _ _ _
                    simp only [Grow.dstOf, List.getElem?_toArray, List.getElem?_cons_succ, List.getElem?_cons_zero, Option.bind_some, Act.put, List.setIfInBounds_toArray, List.set_cons_succ, List.set_cons_zero]
                    go_wp2
                    exact ⟨rfl, Below.refl _ _, rfl⟩
                  case o12w =>
                    intro w' hb v1 hv1 v2 hv2 v3 hv3
                    obtain rfl : v1 = _ := hv1
                    obtain rfl : v2 = _ := hv2
                    obtain rfl : v3 = _ := hv3
                    show wpList _ _ _ _ _ _
                    simp only [Grow.dstOf, List.getElem?_toArray, List.getElem?_cons_succ, List.getElem?_cons_zero, Option.bind_some, Act.put, List.setIfInBounds_toArray, List.set_cons_succ, List.set_cons_zero]
                    go_wp2
                    exact ⟨rfl, Below.refl _ _, rfl⟩
                  case o13w =>
                    intro w' hb v1 hv1 v2 hv2
                    obtain rfl : v1 = _ := hv1
                    obtain rfl : v2 = _ := hv2
                    have v_xi' : w'.cell? ⟨xb, xo + i, none⟩ = some (.bool true) := (hb.cell (World.block_lt_of_cell? _ _ v_xi)).trans v_xi
                    show wpList _ _ _ _ _ _
                    simp only [Grow.dstOf, List.getElem?_toArray, List.getElem?_cons_succ, List.getElem?_cons_zero, Option.bind_some, Act.put, List.setIfInBounds_toArray, List.set_cons_succ, List.set_cons_zero]
                    go_wp2
                    exact ⟨rfl, Below.refl _ _, rfl⟩
                  case o14w =>
                    intro w' hb v1 hv1 v2 hv2
                    obtain rfl : v1 = _ := hv1
                    obtain rfl : v2 = _ := hv2
                    show wpList _ _ _ _ _ _
                    simp only [Grow.dstOf, List.getElem?_toArray, List.getElem?_cons_succ, List.getElem?_cons_zero, Option.bind_some, Act.put, List.setIfInBounds_toArray, List.set_cons_succ, List.set_cons_zero]
                    go_wp2
                    exact ⟨rfl, Below.refl _ _, rfl⟩
                  case o15w =>
                    intro w' hb v1 hv1
                    obtain rfl : v1 = _ := hv1
                    show wpList _ _ _ _ _ _
                    simp only [Grow.dstOf, List.getElem?_toArray, List.getElem?_cons_succ, List.getElem?_cons_zero, Option.bind_some, Act.put, List.setIfInBounds_toArray, List.set_cons_succ, List.set_cons_zero]
                    go_wp2
                    exact ⟨rfl, Below.refl _ _, rfl⟩
                  case o16w =>
                    intro w' hb v1 hv1
                    obtain rfl : v1 = _ := hv1
                    show wpList _ _ _ _ _ _
                    simp only [Grow.dstOf, List.getElem?_toArray, List.getElem?_cons_succ, List.getElem?_cons_zero, Option.bind_some, Act.put, List.setIfInBounds_toArray, List.set_cons_succ, List.set_cons_zero]
                    go_wp2
                    exact ⟨rfl, Below.refl _ _, rfl⟩
                  case o17w =>
                    intro w' hb v1 hv1 v2 hv2 v3 hv3
                    obtain rfl : v1 = _ := hv1
                    obtain rfl : v2 = _ := hv2
                    obtain rfl : v3 = _ := hv3
                    show wpList _ _ _ _ _ _
                    simp only [Grow.dstOf, List.getElem?_toArray, List.getElem?_cons_succ, List.getElem?_cons_zero, Option.bind_some, Act.put, List.setIfInBounds_toArray, List.set_cons_succ, List.set_cons_zero]
                    go_wp2
                    exact ⟨rfl, Below.refl _ _, rfl⟩
                  case o18w =>
                    intro w' hb v1 hv1 v2 hv2
                    obtain rfl : v1 = _ := hv1
                    obtain rfl : v2 = _ := hv2
                    have v_xk' : w'.cell? ⟨xb, xo + k, none⟩ = some (.bool true) := (hb.cell (World.block_lt_of_cell? _ _ v_xk)).trans v_xk
                    show wpList _ _ _ _ _ _
                    simp only [Grow.dstOf, List.getElem?_toArray, List.getElem?_cons_succ, List.getElem?_cons_zero, Option.bind_some, Act.put, List.setIfInBounds_toArray, List.set_cons_succ, List.set_cons_zero]
                    go_wp2
                    exact ⟨rfl, Below.refl _ _, rfl⟩
                  case o19w =>
                    intro w' hb v1 hv1 v2 hv2
                    obtain rfl : v1 = _ := hv1
                    obtain rfl : v2 = _ := hv2
                    show wpList _ _ _ _ _ _
                    simp only [Grow.dstOf, List.getElem?_toArray, List.getElem?_cons_succ, List.getElem?_cons_zero, Option.bind_some, Act.put, List.setIfInBounds_toArray, List.set_cons_succ, List.set_cons_zero]
                    go_wp2
                    exact ⟨rfl, Below.refl _ _, rfl⟩
                  case o20w =>
                    intro w' hb v1 hv1 v2 hv2 v3 hv3
                    obtain rfl : v1 = _ := hv1
                    obtain rfl : v2 = _ := hv2
                    obtain rfl : v3 = _ := hv3
                    show wpList _ _ _ _ _ _
                    simp only [Grow.dstOf, List.getElem?_toArray, List.getElem?_cons_succ, List.getElem?_cons_zero, Option.bind_some, Act.put, List.setIfInBounds_toArray, List.set_cons_succ, List.set_cons_zero]
                    go_wp2
                    exact ⟨rfl, Below.refl _ _, rfl⟩
                  case o21w =>
                    intro w' hb v1 hv1 v2 hv2
                    obtain rfl : v1 = _ := hv1
                    obtain rfl : v2 = _ := hv2
                    show wpList _ _ _ _ _ _
                    simp only [Grow.dstOf, List.getElem?_toArray, List.getElem?_cons_succ, List.getElem?_cons_zero, Option.bind_some, Act.put, List.setIfInBounds_toArray, List.set_cons_succ, List.set_cons_zero]
                    go_wp2
                    exact ⟨rfl, Below.refl _ _, rfl⟩
                  case o22w =>
                    intro w' hb v1 hv1
                    obtain rfl : v1 = _ := hv1
                    show wpList _ _ _ _ _ _
                    simp only [Grow.dstOf, List.getElem?_toArray, List.getElem?_cons_succ, List.getElem?_cons_zero, Option.bind_some, Act.put, List.setIfInBounds_toArray, List.set_cons_succ, List.set_cons_zero]
                    go_wp2
                    exact ⟨rfl, Below.refl _ _, rfl⟩
                  case o23w =>
                    intro w' hb v1 hv1
                    obtain rfl : v1 = _ := hv1
                    show wpList _ _ _ _ _ _
                    simp only [Grow.dstOf, List.getElem?_toArray, List.getElem?_cons_succ, List.getElem?_cons_zero, Option.bind_some, Act.put, List.setIfInBounds_toArray, List.set_cons_succ, List.set_cons_zero]
                    go_wp2
                    exact ⟨rfl, Below.refl _ _, rfl⟩
                  case o24w =>
                    intro w' hb v1 hv1 v2 hv2 v3 hv3
                    obtain rfl : v1 = _ := hv1
                    obtain rfl : v2 = _ := hv2
                    obtain rfl : v3 = _ := hv3
                    show wpList _ _ _ _ _ _
                    simp only [Grow.dstOf, List.getElem?_toArray, List.getElem?_cons_succ, List.getElem?_cons_zero, Option.bind_some, Act.put, List.setIfInBounds_toArray, List.set_cons_succ, List.set_cons_zero]
                    go_wp2
                    exact ⟨rfl, Below.refl _ _, rfl⟩
                  case o25w =>
                    intro w' hb v1 hv1 v2 hv2
                    obtain rfl : v1 = _ := hv1
                    obtain rfl : v2 = _ := hv2
                    have v_yi' : w'.cell? ⟨yb, yo + i, none⟩ = some (.bool true) := (hb.cell (World.block_lt_of_cell? _ _ v_yi)).trans v_yi
                    show wpList _ _ _ _ _ _
                    simp only [Grow.dstOf, List.getElem?_toArray, List.getElem?_cons_succ, List.getElem?_cons_zero, Option.bind_some, Act.put, List.setIfInBounds_toArray, List.set_cons_succ, List.set_cons_zero]
                    go_wp2
                    exact ⟨rfl, Below.refl _ _, rfl⟩
                  case o26w =>
                    intro w' hb v1 hv1 v2 hv2
                    obtain rfl : v1 = _ := hv1
                    obtain rfl : v2 = _ := hv2
                    show wpList _ _ _ _ _ _
                    simp only [Grow.dstOf, List.getElem?_toArray, List.getElem?_cons_succ, List.getElem?_cons_zero, Option.bind_some, Act.put, List.setIfInBounds_toArray, List.set_cons_succ, List.set_cons_zero]
                    go_wp2
                    exact ⟨rfl, Below.refl _ _, rfl⟩
                  case o27w =>
                    intro w' hb v1 hv1
                    obtain rfl : v1 = _ := hv1
                    show wpList _ _ _ _ _ _
                    simp only [Grow.dstOf, List.getElem?_toArray, List.getElem?_cons_succ, List.getElem?_cons_zero, Option.bind_some, Act.put, List.setIfInBounds_toArray, List.set_cons_succ, List.set_cons_zero]
                    go_wp2
                    exact ⟨rfl, Below.refl _ _, rfl⟩
                  case o28w =>
                    intro w' hb v1 hv1
                    obtain rfl : v1 = _ := hv1
                    show wpList _ _ _ _ _ _
                    simp only [Grow.dstOf, List.getElem?_toArray, List.getElem?_cons_succ, List.getElem?_cons_zero, Option.bind_some, Act.put, List.setIfInBounds_toArray, List.set_cons_succ, List.set_cons_zero]
                    go_wp2
                    exact ⟨rfl, Below.refl _ _, rfl⟩
                  case o29w =>
                    intro w' hb v1 hv1 v2 hv2 v3 hv3
                    obtain rfl : v1 = _ := hv1
                    obtain rfl : v2 = _ := hv2
                    obtain rfl : v3 = _ := hv3
                    show wpList _ _ _ _ _ _
                    simp only [Grow.dstOf, List.getElem?_toArray, List.getElem?_cons_succ, List.getElem?_cons_zero, Option.bind_some, Act.put, List.setIfInBounds_toArray, List.set_cons_succ, List.set_cons_zero]
                    go_wp2
                    exact ⟨rfl, Below.refl _ _, rfl⟩
                  case o30w =>
                    intro w' hb v1 hv1 v2 hv2
                    obtain rfl : v1 = _ := hv1
                    obtain rfl : v2 = _ := hv2
                    have v_yk' : w'.cell? ⟨yb, yo + k, none⟩ = some (.bool true) := (hb.cell (World.block_lt_of_cell? _ _ v_yk)).trans v_yk
                    show wpList _ _ _ _ _ _
                    simp only [Grow.dstOf, List.getElem?_toArray, List.getElem?_cons_succ, List.getElem?_cons_zero, Option.bind_some, Act.put, List.setIfInBounds_toArray, List.set_cons_succ, List.set_cons_zero]
                    go_wp2
                    exact ⟨rfl, Below.refl _ _, rfl⟩
                  case o31w =>
                    intro w' hb v1 hv1 v2 hv2
                    obtain rfl : v1 = _ := hv1
                    obtain rfl : v2 = _ := hv2
                    show wpList _ _ _ _ _ _
                    simp only [Grow.dstOf, List.getElem?_toArray, List.getElem?_cons_succ, List.getElem?_cons_zero, Option.bind_some, Act.put, List.setIfInBounds_toArray, List.set_cons_succ, List.set_cons_zero]
                    go_wp2
                    exact ⟨rfl, Below.refl _ _, rfl⟩
                  case o32w =>
                    intro w' hb v1 hv1 v2 hv2 v3 hv3
                    obtain rfl : v1 = _ := hv1
                    obtain rfl : v2 = _ := hv2
                    obtain rfl : v3 = _ := hv3
                    show wpList _ _ _ _ _ _
                    simp only [Grow.dstOf, List.getElem?_toArray, List.getElem?_cons_succ, List.getElem?_cons_zero, Option.bind_some, Act.put, List.setIfInBounds_toArray, List.set_cons_succ, List.set_cons_zero]
                    go_wp2
                    exact ⟨rfl, Below.refl _ _, rfl⟩
                  case o33w =>
                    intro w' hb v1 hv1 v2 hv2 v3 hv3
                    obtain rfl : v1 = _ := hv1
                    obtain rfl : v2 = _ := hv2
                    obtain rfl : v3 = _ := hv3
                    show wpList _ _ _ _ _ _
                    simp only [Grow.dstOf, List.getElem?_toArray, List.getElem?_cons_succ, List.getElem?_cons_zero, Option.bind_some, Act.put, List.setIfInBounds_toArray, List.set_cons_succ, List.set_cons_zero]
                    go_wp2
                    exact ⟨rfl, Below.refl _ _, rfl⟩
                  case o34w =>
                    intro w' hb v1 hv1 v2 hv2
                    obtain rfl : v1 = _ := hv1
                    obtain rfl : v2 = _ := hv2
                    show wpList _ _ _ _ _ _
                    simp only [Grow.dstOf, List.getElem?_toArray, List.getElem?_cons_succ, List.getElem?_cons_zero, Option.bind_some, Act.put, List.setIfInBounds_toArray, List.set_cons_succ, List.set_cons_zero]
                    go_wp2
                    exact ⟨rfl, Below.refl _ _, rfl⟩
                  intro V2 hbz u0 hu0 u1 hu1 u2 hu2 u3 hu3 u4 hu4 u5 hu5 u6 hu6 u7 hu7 u8 hu8 u9 hu9 u10 hu10 u11 hu11 u12 hu12 u13 hu13 u14 hu14 u15 hu15 u16 hu16 u17 hu17 u18 hu18 u19 hu19 u20 hu20 u21 hu21 u22 hu22 u23 hu23 u24 hu24 u25 hu25 u26 hu26 u27 hu27 u28 hu28 u29 hu29 u30 hu30 u31 hu31 u32 hu32 u33 hu33 u34 hu34
                  obtain rfl : u34 = _ := hu34
                  clear hu0 hu1 hu2 hu3 hu4 hu5 hu6 hu7 hu8 hu9 hu10 hu11 hu12 hu13 hu14 hu15 hu16 hu17 hu18 hu19 hu20 hu21 hu22 hu23 hu24 hu25 hu26 hu27 hu28 hu29 hu30 hu31 hu32 hu33
                  refine tail_none (P := Tryz.prog) (ops := #[]) ?_
                  simp only [Act.put, List.setIfInBounds_toArray, List.set_cons_succ, List.set_cons_zero]
                  clear d0 d1 e0 e1 v_xi v_xk v_yi v_yk HGW
                  replace HB2 := Lib.hid (ext_trans HB2.out hbz)
                  clear hbz
                  go_wp2
                  go_roundw
                  case rel => exact ⟨k + 1, by omega, by go_num, HB2⟩
                  case measure => simp [intOf]; omega
              · have hki : k = l.length := by omega
                replace HBL := Lib.hid (HBL.out.trans (HB2.out.mono hsb))
                clear c_xi c_yi
                go_wp2
                go_roundw
                case rel => exact ⟨i + 1, by omega, by go_num, HBL⟩
                case measure => simp [intOf]; omega
      · have hbz := HBL.out
        replace HB_p := Lib.hid (HB_p.out.ext hbz)
        replace S_x := Lib.hid (S_x.out.ext hbz)
        replace S_y := Lib.hid (S_y.out.ext hbz)
        replace HSL := Lib.hid (HSL.out.ext hbz)
        replace HW := Lib.hid (ext_trans HW.out hbz)
        clear hbz
        clear HBL
        go_wp2_with fail
        refine (whole0 X (HT0.out.ext HW.out)).mono ?_
        rintro e w5' ⟨rfl, hbz⟩
        replace HB_p := Lib.hid (HB_p.out.ext hbz)
        replace S_x := Lib.hid (S_x.out.ext hbz)
        replace S_y := Lib.hid (S_y.out.ext hbz)
        replace HSL := Lib.hid (HSL.out.ext hbz)
        replace HW := Lib.hid (ext_trans HW.out hbz)
        clear hbz
        obtain ⟨L2, hL2⟩ : ∃ L, l ++ [zR] = L := ⟨_, rfl⟩
        have HL2 := Lib.hid hL2
        have HLN : Hid (L2.length = l.length + 1) := Lib.hid (by rw [← hL2, List.length_append]; rfl)
        have HOK2 : Hid (∀ r ∈ L2, rtOk r) := Lib.hid (by rw [← hL2]; intro r hr; rcases List.mem_append.1 hr with h | h; exact H.out.1 r h; rw [List.mem_singleton.1 h]; exact zR_ok)
        have HCAT : Hid (Calls Tryz.prog 25 #[.slice (some ⟨w5'.heap.size + 1, 0, none⟩) 2 2] ((w5'.alloc (.cells #[.string (showN 0), .string (showD 0)] 23)).alloc (.cells #[.slice a l.length c, .slice (some ⟨w5'.heap.size, 0, none⟩) 1 1] 40)) (CCCatR.CatFrom (w5'.alloc (.cells #[.string (showN 0), .string (showD 0)] 23)) L2)) := Lib.hid (by
          have h := CCCatR.cat_new' (w5'.alloc (.cells #[.string (showN 0), .string (showD 0)] 23)) a (some ⟨w5'.heap.size, 0, none⟩) c 1 l [zR] (HSL.out.ext (ext_alloc _ _)) (Sl.new w5' #[.string (showN 0), .string (showD 0)] _ 1 1 (by omega) (by decide)) (by simp; omega)
          rw [show (w5'.alloc (.cells #[.string (showN 0), .string (showD 0)] 23)).heap.size = w5'.heap.size + 1 by simp, hL2] at h
          exact h)
        clear hL2
        obtain ⟨rg, hrg⟩ : ∃ z, rkF L2 n d = z := ⟨_, rfl⟩
        have H_rg := Lib.hid hrg
        clear hrg
        obtain ⟨LP, hLP⟩ : ∃ z, holmB (vL L2) (rQ n d)⁻¹ L2.length = z := ⟨_, rfl⟩
        have H_LP := Lib.hid hLP
        clear hLP
        obtain ⟨LQ, hLQ⟩ : ∃ z, shareB (vL L2) (rQ n d)⁻¹ L2.length = z := ⟨_, rfl⟩
        have H_LQ := Lib.hid hLQ
        clear hLQ
        have HLP : Hid (LP.length = l.length + 1) := Lib.hid (by rw [← H_LP.out, holmB_len, HLN.out])
        have HLQ : Hid (LQ.length = l.length + 1) := Lib.hid (by rw [← H_LQ.out, shareB_len, HLN.out])
        go_wp2_with fail
        refine HCAT.out.mono ?_
        rintro e w6' ⟨ma, mc, rfl, hm, _, hbz0⟩
        have hbz := ext_trans (ext_alloc w5' (.cells #[.string (showN 0), .string (showD 0)] 23)) hbz0
        have HML := Lib.hid hm
        clear hm hbz0 HCAT
        replace HB_p := Lib.hid (HB_p.out.ext hbz)
        replace S_x := Lib.hid (S_x.out.ext hbz)
        replace S_y := Lib.hid (S_y.out.ext hbz)
        replace HSL := Lib.hid (HSL.out.ext hbz)
        replace HW := Lib.hid (ext_trans HW.out hbz)
        clear hbz
        have c_p_0 : w6'.cell? ⟨w.heap.size, 0, none⟩ = some (.string n) := HB_p.out.2 0
        have c_p_1 : w6'.cell? ⟨w.heap.size, 1, none⟩ = some (.string d) := HB_p.out.2 1
        go_wp2_with fail
        refine ((by have h := holm_at L2 HOK2.out ma mc n d H.out.2.1.1 H.out.2.1.2 w6' HML.out; rw [H_rg.out, H_LP.out] at h; exact h : Calls _ _ _ w6' (RowsPost w6' rg LP))).mono ?_
        rintro e w7' ⟨ua, un, uc, rfl, hu, hbz⟩
        have R_u := Lib.hid hu
        clear hu
        replace HB_p := Lib.hid (HB_p.out.ext hbz)
        replace S_x := Lib.hid (S_x.out.ext hbz)
        replace S_y := Lib.hid (S_y.out.ext hbz)
        replace HSL := Lib.hid (HSL.out.ext hbz)
        replace HML := Lib.hid (HML.out.ext hbz)
        replace HW := Lib.hid (ext_trans HW.out hbz)
        clear c_p_0 c_p_1
        clear hbz
        have c_p_0 : w7'.cell? ⟨w.heap.size, 0, none⟩ = some (.string n) := HB_p.out.2 0
        have c_p_1 : w7'.cell? ⟨w.heap.size, 1, none⟩ = some (.string d) := HB_p.out.2 1
        go_wp2_with fail
        refine ((by have h := share_at L2 HOK2.out ma mc n d H.out.2.1.1 H.out.2.1.2 w7' HML.out; rw [H_rg.out, H_LQ.out] at h; exact h : Calls _ _ _ w7' (RowsPost w7' rg LQ))).mono ?_
        rintro e w8' ⟨va, vn, vc, rfl, hv, hbz⟩
        have R_v := Lib.hid hv
        clear hv
        replace HB_p := Lib.hid (HB_p.out.ext hbz)
        replace S_x := Lib.hid (S_x.out.ext hbz)
        replace S_y := Lib.hid (S_y.out.ext hbz)
        replace HSL := Lib.hid (HSL.out.ext hbz)
        replace HML := Lib.hid (HML.out.ext hbz)
        replace R_u := Lib.hid (R_u.out.ext hbz)
        replace HW := Lib.hid (ext_trans HW.out hbz)
        clear c_p_0 c_p_1
        clear hbz
        by_cases hg : rg = 0
        · have hne2 : (rg != 0) = false := by simp [hg]
          obtain ⟨hn9, hs9⟩ := R_u.out.1 hg
          rw [HLP.out] at hn9
          subst hn9
          obtain ⟨ub, uo, rfl, _⟩ := sl_addr hs9 (bcs_at (i := 0) (by rw [HLP.out]; omega))
          have S_u := Lib.hid hs9
          clear hs9
          obtain ⟨hn9, hs9⟩ := R_v.out.1 hg
          rw [HLQ.out] at hn9
          subst hn9
          obtain ⟨vb, vo, rfl, _⟩ := sl_addr hs9 (bcs_at (i := 0) (by rw [HLQ.out]; omega))
          have S_v := Lib.hid hs9
          clear hs9
          clear hg R_u R_v
          have HMO : Hid (More l.length LH LS LP LQ) := Lib.hid (by rw [← H_LH.out, ← H_LS.out, ← H_LP.out, ← H_LQ.out, ← HL2.out, List.length_append]; exact more_is HIP.out HVP.out (with0 l))
          have HBL : Hid (Below w8'.heap.size w8' w8') := Lib.hid (Below.refl _ _)
          go_wp2
          go_loopw [134] (fun s wr => ∃ i : Nat, i ≤ l.length ∧ s = .int .i64 (i : Int) ∧ Hid (Below w8'.heap.size w8' wr)) (fun s _ => l.length - (intOf s).toNat)
          case atStart => exact ⟨0, by omega, rfl, HBL⟩
          case round =>
            clear HBL
            obtain ⟨j, hj, rfl, HBL⟩ := hrel
            generalize hX : wr = Z at *
            clear hX
            by_cases hjl : j < l.length
            · obtain ⟨xj, hxj⟩ : ∃ b, LH.getD j false = b := ⟨_, rfl⟩
              have HXJ := Lib.hid hxj
              clear hxj
              have c_xj : Z.cell? ⟨xb, xo + j, none⟩ = some (.bool xj) := by obtain ⟨_, _, e, h⟩ := sl_addr (S_x.out.ext HBL.out) (bcs_at (i := j) (by rw [HLH.out]; omega)); cases e; rw [← HXJ.out]; exact h
              obtain ⟨yj, hyj⟩ : ∃ b, LS.getD j false = b := ⟨_, rfl⟩
              have HYJ := Lib.hid hyj
              clear hyj
              have c_yj : Z.cell? ⟨yb, yo + j, none⟩ = some (.bool yj) := by obtain ⟨_, _, e, h⟩ := sl_addr (S_y.out.ext HBL.out) (bcs_at (i := j) (by rw [HLS.out]; omega)); cases e; rw [← HYJ.out]; exact h
              obtain ⟨uj, huj⟩ : ∃ b, LP.getD j false = b := ⟨_, rfl⟩
              have HUJ := Lib.hid huj
              clear huj
              have c_uj : Z.cell? ⟨ub, uo + j, none⟩ = some (.bool uj) := by obtain ⟨_, _, e, h⟩ := sl_addr (S_u.out.ext HBL.out) (bcs_at (i := j) (by rw [HLP.out]; omega)); cases e; rw [← HUJ.out]; exact h
              obtain ⟨vj, hvj⟩ : ∃ b, LQ.getD j false = b := ⟨_, rfl⟩
              have HVJ := Lib.hid hvj
              clear hvj
              have c_vj : Z.cell? ⟨vb, vo + j, none⟩ = some (.bool vj) := by obtain ⟨_, _, e, h⟩ := sl_addr (S_v.out.ext HBL.out) (bcs_at (i := j) (by rw [HLQ.out]; omega)); cases e; rw [← HVJ.out]; exact h
              have hj0 : (0 : Int) ≤ (j : Int) := Int.natCast_nonneg _
              have hj1 : (j : Int) < (l.length : Int) := by omega
              have hj2 : (j : Int) < (l.length : Int) + 1 := by omega
              have hj3 : (j : Int).toNat = j := by omega
              cases uj
              · cases vj
                · go_wp2
                  go_roundw
                  case rel => exact ⟨j + 1, by omega, by go_num, HBL⟩
                  case measure => simp [intOf]; omega
                · obtain rfl : yj = true := by rw [← HYJ.out]; exact HMO.out.qy j hjl HVJ.out
                  go_wp2
                  go_roundw
                  case rel => exact ⟨j + 1, by omega, by go_num, HBL⟩
                  case measure => simp [intOf]; omega
              · obtain rfl : xj = true := by rw [← HXJ.out]; exact HMO.out.px j hjl HUJ.out
                cases vj
                · go_wp2
                  go_roundw
                  case rel => exact ⟨j + 1, by omega, by go_num, HBL⟩
                  case measure => simp [intOf]; omega
                · obtain rfl : yj = true := by rw [← HYJ.out]; exact HMO.out.qy j hjl HVJ.out
                  go_wp2
                  go_roundw
                  case rel => exact ⟨j + 1, by omega, by go_num, HBL⟩
                  case measure => simp [intOf]; omega
            · have hjn : j = l.length := by omega
              subst hjn
              have c_uj : Z.cell? ⟨ub, uo + l.length, none⟩ = some (.bool false) := by obtain ⟨_, _, e, h⟩ := sl_addr (S_u.out.ext HBL.out) (bcs_at (i := l.length) (by rw [HLP.out]; omega)); cases e; rw [HMO.out.pn] at h; exact h
              have c_vj : Z.cell? ⟨vb, vo + l.length, none⟩ = some (.bool false) := by obtain ⟨_, _, e, h⟩ := sl_addr (S_v.out.ext HBL.out) (bcs_at (i := l.length) (by rw [HLQ.out]; omega)); cases e; rw [HMO.out.qn] at h; exact h
              have hj0 : (0 : Int) ≤ (l.length : Int) := Int.natCast_nonneg _
              have hj2 : (l.length : Int) < (l.length : Int) + 1 := by omega
              have hj4 : ¬ ((l.length : Int) < (l.length : Int)) := by omega
              have HWZ := Lib.hid (ext_trans HW.out HBL.out)
              go_wp2
              go_ret
              exact ⟨by simp, HWZ.out⟩
        · have hne2 : (rg != 0) = true := by simp [hg]
          obtain ⟨rfl, rfl, rfl⟩ := R_u.out.2 hg
          obtain ⟨rfl, rfl, rfl⟩ := R_v.out.2 hg
          have h10 : (l.length : Int) = 10 := by have h := rk_more HRF0.out (by rw [HL2.out, H_rg.out]; exact hg); omega
          clear hg
          go_wp2
          go_ret
          exact ⟨by simp, HW.out⟩
  · have hne : (rf != 0) = true := by simp [hf]
    obtain ⟨rfl, rfl, rfl⟩ := R_x.out.2 hf
    obtain ⟨rfl, rfl, rfl⟩ := R_y.out.2 hf
    clear hf
    go_wp2
    go_ret
    exact ⟨by simp, HW.out⟩
end Go.Proofs.YtemenlcigengeaaGreatDoor.lawHis
