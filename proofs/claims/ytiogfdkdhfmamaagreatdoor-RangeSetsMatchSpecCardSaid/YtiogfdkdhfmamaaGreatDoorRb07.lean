/- comparePre and CompareVersions of the reference. Printed by gen_vread.py. -/
import Derived.Test.YtiogfdkdhfmamaaGreatDoorRb05
import Derived.Test.YtiogfdkdhfmamaaGreatDoorRb06
namespace Go.Proofs.YtiogfdkdhfmamaaGreatDoor
open Go.RowKit
namespace Tx
open _root_.Go.Proofs.YtiogfdkdhfmamaaGreatDoor.Nm
open _root_.Go.Proofs.YtiogfdkdhfmamaaGreatDoor.Nt (RH RH.cell RH.box RH.lt RH.new RH.ext RH.fre RH.set RH.other)
theorem refAllDigits_is (s : ByteArray) (hs : s.size ≤ maxLen) (b : Bool) (h : numB s.data.toList = b) (w : World) : Calls Tryz.prog 82 #[.string s] w fun e w' => e = .returned (.bool b) ∧ w = w' := by subst h; exact refAllDigits_at s hs w
set_option maxHeartbeats 4000000 in
theorem refComparePre_at (a b : ByteArray) (ha : a.size ≤ maxLen) (hb : b.size ≤ maxLen) (w : World) : Calls Tryz.prog 71 #[.string a, .string b] w fun e w' => e = .returned (.int .i64 (cmpP a b)) ∧ Below w.heap.size w w' := by
  have HP : Hid (cmpP a b = if numB a.data.toList = true then (if numB b.data.toList = true then numP a b else -1) else if numB b.data.toList = true then 1 else cmpS a b) := Lib.hid rfl
  obtain ⟨x, hx⟩ : ∃ x, numB a.data.toList = x := ⟨_, rfl⟩
  obtain ⟨y, hy⟩ : ∃ y, numB b.data.toList = y := ⟨_, rfl⟩
  rw [hx, hy] at HP
  have HX := Lib.hid hx
  have HY := Lib.hid hy
  clear hx hy
  cases x <;> cases y
  · have HN : Hid (cmpP a b = cmpS a b) := Lib.hid (by rw [HP.out]; rfl)
    clear HP
    go_enter Tryz.func71, Tryz.ntmps71
    go_wp2_with fail
    refine (refAllDigits_is a ha false HX.out _).mono ?_
    rintro e w' ⟨rfl, rfl⟩
    go_wp2_with fail
    refine (refAllDigits_is b hb false HY.out _).mono ?_
    rintro e w' ⟨rfl, rfl⟩
    go_wp2_with (go_at_call 83; refine (cmp_string _ _ _).mono ?_; rintro e w' ⟨rfl, rfl⟩)
    go_ret
    exact ⟨ret_int HN.out.symm, Below.refl _ _⟩
  · have HN : Hid (cmpP a b = 1) := Lib.hid (by rw [HP.out]; rfl)
    clear HP
    go_enter Tryz.func71, Tryz.ntmps71
    go_wp2_with fail
    refine (refAllDigits_is a ha false HX.out _).mono ?_
    rintro e w' ⟨rfl, rfl⟩
    go_wp2_with fail
    refine (refAllDigits_is b hb true HY.out _).mono ?_
    rintro e w' ⟨rfl, rfl⟩
    go_wp2
    go_ret
    exact ⟨ret_int HN.out.symm, Below.refl _ _⟩
  · have HN : Hid (cmpP a b = -1) := Lib.hid (by rw [HP.out]; rfl)
    clear HP
    go_enter Tryz.func71, Tryz.ntmps71
    go_wp2_with fail
    refine (refAllDigits_is a ha true HX.out _).mono ?_
    rintro e w' ⟨rfl, rfl⟩
    go_wp2_with fail
    refine (refAllDigits_is b hb false HY.out _).mono ?_
    rintro e w' ⟨rfl, rfl⟩
    go_wp2
    go_ret
    exact ⟨ret_int HN.out.symm, Below.refl _ _⟩
  · have HN : Hid (cmpP a b = numP a b) := Lib.hid (by rw [HP.out]; rfl)
    clear HP
    go_enter Tryz.func71, Tryz.ntmps71
    go_wp2_with fail
    refine (refAllDigits_is a ha true HX.out _).mono ?_
    rintro e w' ⟨rfl, rfl⟩
    go_wp2_with fail
    refine (refAllDigits_is b hb true HY.out _).mono ?_
    rintro e w' ⟨rfl, rfl⟩
    go_wp2_with (first | (go_at_call 80; refine (trimLeft_zero _ (by assumption) _).mono ?_; rintro e w' ⟨rfl, rfl⟩) | (go_at_call 65; refine (cmp_int _ _ _).mono ?_; rintro e w' ⟨rfl, rfl⟩) | (go_at_call 83; refine (cmp_string _ _ _).mono ?_; rintro e w' ⟨rfl, rfl⟩))
    refine (or_two _ _ _ _ (by simp; rfl) (by simp; rfl)).mono ?_
    rintro e w' ⟨rfl, rfl⟩
    go_wp2
    go_ret
    exact ⟨ret_int HN.out.symm, by go_grown⟩
theorem cmp_intB (a b z : Int) (hz : cmpI a b = z) (w : World) : Calls Tryz.prog 65 #[.int .i64 a, .int .i64 b] w fun e w' => e = .returned (.int .i64 z) ∧ Below w.heap.size w w' := by
  subst hz
  refine (cmp_int a b w).mono ?_
  rintro e w' ⟨rfl, rfl⟩
  exact ⟨rfl, Below.refl _ _⟩
/-- a new slice of three numbers -/
def TP.n3 (a b c : Int) : TP := ⟨fun w v => ∃ g, v = .slice (some ⟨g, 0, none⟩) 3 3 ∧ w.cell? ⟨g, 0, none⟩ = some (.int .i64 a) ∧ w.cell? ⟨g, 1, none⟩ = some (.int .i64 b) ∧ w.cell? ⟨g, 2, none⟩ = some (.int .i64 c), fun w w' v hb h => by
  obtain ⟨g, h1, h2, h3, h4⟩ := h
  exact ⟨g, h1, (hb.cell (World.block_lt_of_cell? _ _ h2)).trans h2, (hb.cell (World.block_lt_of_cell? _ _ h3)).trans h3, (hb.cell (World.block_lt_of_cell? _ _ h4)).trans h4⟩⟩
theorem n3_new (w : World) (a b c : Int) : (TP.n3 a b c).p (w.alloc (.cells #[.int .i64 a, .int .i64 b, .int .i64 c] 3)) (.slice (some ⟨w.heap.size, 0, none⟩) 3 3) := ⟨w.heap.size, rfl, by simp, by simp, by simp⟩
theorem or_threeB (a b c z : Int) (hz : orI a (orI b c) = z) (g : Nat) (w : World) (h0 : w.cell? ⟨g, 0, none⟩ = some (.int .i64 a)) (h1 : w.cell? ⟨g, 1, none⟩ = some (.int .i64 b)) (h2 : w.cell? ⟨g, 2, none⟩ = some (.int .i64 c)) : Calls Tryz.prog 64 #[.slice (some ⟨g, 0, none⟩) 3 3] w fun e w' => e = .returned (.int .i64 z) ∧ Below w.heap.size w w' := by
  subst hz
  refine (or_three a b c g w h0 h1 h2).mono ?_
  rintro e w' ⟨rfl, rfl⟩
  exact ⟨rfl, Below.refl _ _⟩
theorem cmpPs_end {l r : List ByteArray} {k : Nat} (hk : k = l.length ∨ k = r.length) (h1 : k ≤ l.length) (h2 : k ≤ r.length) : cmpPs (l.drop k) (r.drop k) = cmpI (l.length : Int) (r.length : Int) := by
  unfold cmpI
  by_cases e1 : k = l.length
  · by_cases e2 : k = r.length
    · rw [drop_nil' l k (by omega), drop_nil' r k (by omega), if_neg (by omega), if_neg (by omega)]; rfl
    · rw [drop_nil' l k (by omega), drop_cons' (show k < r.length by omega), if_pos (by omega)]; rfl
  · have e2 := hk.resolve_left e1
    rw [drop_cons' (show k < l.length by omega), drop_nil' r k (by omega), if_neg (by omega), if_pos (by omega)]; rfl
set_option maxRecDepth 100000 in
set_option maxHeartbeats 16000000 in
theorem refCompareVersions_at (x y : Ver) (cs cs' : List Value) (w : World) (h : RepVer w x cs) (h' : RepVer w y cs') : Calls Tryz.prog 47 #[.agg cs.toArray, .agg cs'.toArray] w fun e w' => e = .returned (.int .i64 (cmpVer x y)) ∧ Below w.heap.size w w' := by
  obtain ⟨aa, ca, rfl, s1, h1⟩ := h
  obtain ⟨ab, cb, rfl, s2, h2⟩ := h'
  obtain ⟨xa, xb, xc, xp⟩ := x
  obtain ⟨ya, yb, yc, yp⟩ := y
  simp only at s1 h1 s2 h2
  have HV : Hid (cmpVer ⟨xa, xb, xc, xp⟩ ⟨ya, yb, yc, yp⟩ = if orI (cmpI xa ya) (orI (cmpI xb yb) (cmpI xc yc)) ≠ 0 then orI (cmpI xa ya) (orI (cmpI xb yb) (cmpI xc yc)) else if xp = [] then (if yp = [] then 0 else 1) else if yp = [] then -1 else cmpPs xp yp) := Lib.hid rfl
  generalize cmpVer ⟨xa, xb, xc, xp⟩ ⟨ya, yb, yc, yp⟩ = N at *
  have HZ1 := Lib.hid h1
  have HZ2 := Lib.hid h2
  have S1 : Hid (SlS w aa xp ca) := Lib.hid s1
  have S2 : Hid (SlS w ab yp cb) := Lib.hid s2
  have hl1 := s1.len63
  have hl2 := s2.len63
  clear s1 s2 h1 h2
  obtain ⟨c0, hc0⟩ : ∃ z, cmpI xa ya = z := ⟨_, rfl⟩
  obtain ⟨c1, hc1⟩ : ∃ z, cmpI xb yb = z := ⟨_, rfl⟩
  obtain ⟨c2, hc2⟩ : ∃ z, cmpI xc yc = z := ⟨_, rfl⟩
  rw [hc0, hc1, hc2] at HV
  obtain ⟨q, hq⟩ : ∃ z, orI c0 (orI c1 c2) = z := ⟨_, rfl⟩
  rw [hq] at HV
  have HC := Lib.hid (And.intro hc0 (And.intro hc1 (And.intro hc2 hq)))
  clear hc0 hc1 hc2 hq
  go_enter Tryz.func47, Tryz.ntmps47
  go_upto_region 1 with (fail)
  refine wp_vr2 fun w1' hbz hR0 hR1 => ?_
  have HR_a : Hid (RH w1' w.heap.size #[.int .i64 (xa), .int .i64 (xb), .int .i64 (xc), .slice aa xp.length ca] 29) := Lib.hid hR0
  have HR_b : Hid (RH w1' (w.heap.size + 1) #[.int .i64 (ya), .int .i64 (yb), .int .i64 (yc), .slice ab yp.length cb] 29) := Lib.hid hR1
  have HW := Lib.hid hbz
  clear hbz hR0 hR1
  have HA : Hid (SlS w1' aa xp ca) := Lib.hid (S1.out.ext HW.out)
  have HB : Hid (SlS w1' ab yp cb) := Lib.hid (S2.out.ext HW.out)
  clear S1 S2
  obtain ⟨c_a_0, c_a_1, c_a_2, c_a_3⟩ := zs4 HR_a.out
  obtain ⟨c_b_0, c_b_1, c_b_2, c_b_3⟩ := zs4 HR_b.out
  refine Grow.wp_region_grow 17 [TP.eq (.pointer (some ⟨w.heap.size, 0, none⟩)), TP.eq (.int .i64 (xa)), TP.eq (.pointer (some ⟨(w.heap.size + 1), 0, none⟩)), TP.eq (.int .i64 (ya)), TP.eq (.int .i64 (c0)), TP.eq (.pointer (some ⟨w.heap.size, 1, none⟩)), TP.eq (.int .i64 (xb)), TP.eq (.pointer (some ⟨(w.heap.size + 1), 1, none⟩)), TP.eq (.int .i64 (yb)), TP.eq (.int .i64 (c1)), TP.eq (.pointer (some ⟨w.heap.size, 2, none⟩)), TP.eq (.int .i64 (xc)), TP.eq (.pointer (some ⟨(w.heap.size + 1), 2, none⟩)), TP.eq (.int .i64 (yc)), TP.eq (.int .i64 (c2)), TP.n3 c0 c1 c2, TP.eq (.int .i64 (q))] [[], [0], [], [2], [1, 3], [], [5], [], [7], [6, 8], [], [10], [], [12], [11, 13], [4, 9, 14], [15]] (by kernel_rfl) (by kernel_rfl) ⟨?o0g, ?o1g, ?o2g, ?o3g, ?o4g, ?o5g, ?o6g, ?o7g, ?o8g, ?o9g, ?o10g, ?o11g, ?o12g, ?o13g, ?o14g, ?o15g, ?o16g, trivial⟩ ?_
  case o0g | o2g | o5g | o7g | o10g | o12g =>
    intro w' hb
    show wpList _ _ _ _ _ _
    go_wp2
    exact ⟨rfl, Below.refl _ _, rfl⟩
  case o1g =>
    intro w' hb v1 hv1
    obtain rfl : v1 = _ := hv1
    have c_a_0' : w'.cell? ⟨w.heap.size, 0, none⟩ = some (.int .i64 (xa)) := (hb.cell (World.block_lt_of_cell? _ _ c_a_0)).trans c_a_0
    show wpList _ _ _ _ _ _
    simp only [Grow.dstOf, List.getElem?_toArray, List.getElem?_cons_zero, Option.bind_some, Act.put, List.setIfInBounds_toArray, List.set_cons_succ, List.set_cons_zero]
    go_wp2
    exact ⟨rfl, Below.refl _ _, rfl⟩
  case o3g | o6g | o8g | o11g | o13g =>
    intro w' hb v1 hv1
    obtain rfl : v1 = _ := hv1
    have c_b_0' : w'.cell? ⟨(w.heap.size + 1), 0, none⟩ = some (.int .i64 (ya)) := (hb.cell (World.block_lt_of_cell? _ _ c_b_0)).trans c_b_0
    have c_a_1' : w'.cell? ⟨w.heap.size, 1, none⟩ = some (.int .i64 (xb)) := (hb.cell (World.block_lt_of_cell? _ _ c_a_1)).trans c_a_1
    have c_b_1' : w'.cell? ⟨(w.heap.size + 1), 1, none⟩ = some (.int .i64 (yb)) := (hb.cell (World.block_lt_of_cell? _ _ c_b_1)).trans c_b_1
    have c_a_2' : w'.cell? ⟨w.heap.size, 2, none⟩ = some (.int .i64 (xc)) := (hb.cell (World.block_lt_of_cell? _ _ c_a_2)).trans c_a_2
    have c_b_2' : w'.cell? ⟨(w.heap.size + 1), 2, none⟩ = some (.int .i64 (yc)) := (hb.cell (World.block_lt_of_cell? _ _ c_b_2)).trans c_b_2
    show wpList _ _ _ _ _ _
    simp only [Grow.dstOf, List.getElem?_toArray, List.getElem?_cons_succ, List.getElem?_cons_zero, Option.bind_some, Act.put, List.setIfInBounds_toArray, List.set_cons_succ, List.set_cons_zero]
    go_wp2
    exact ⟨rfl, Below.refl _ _, rfl⟩
  case o4g =>
    intro w' hb v1 hv1 v2 hv2
    obtain rfl : v1 = _ := hv1
    obtain rfl : v2 = _ := hv2
    show wpList _ _ _ _ _ _
    simp only [Grow.dstOf, List.getElem?_toArray, List.getElem?_cons_succ, List.getElem?_cons_zero, Option.bind_some, Act.put, List.setIfInBounds_toArray, List.set_cons_succ, List.set_cons_zero]
    go_wp2_with fail
    refine (cmp_intB xa ya c0 HC.out.1 w').mono ?_
    rintro e wz ⟨rfl, hbz⟩
    go_wp2
    exact ⟨rfl, hbz, rfl⟩
  case o9g =>
    intro w' hb v1 hv1 v2 hv2
    obtain rfl : v1 = _ := hv1
    obtain rfl : v2 = _ := hv2
    show wpList _ _ _ _ _ _
    simp only [Grow.dstOf, List.getElem?_toArray, List.getElem?_cons_succ, List.getElem?_cons_zero, Option.bind_some, Act.put, List.setIfInBounds_toArray, List.set_cons_succ, List.set_cons_zero]
    go_wp2_with fail
    refine (cmp_intB xb yb c1 HC.out.2.1 w').mono ?_
    rintro e wz ⟨rfl, hbz⟩
    go_wp2
    exact ⟨rfl, hbz, rfl⟩
  case o14g =>
    intro w' hb v1 hv1 v2 hv2
    obtain rfl : v1 = _ := hv1
    obtain rfl : v2 = _ := hv2
    show wpList _ _ _ _ _ _
    simp only [Grow.dstOf, List.getElem?_toArray, List.getElem?_cons_succ, List.getElem?_cons_zero, Option.bind_some, Act.put, List.setIfInBounds_toArray, List.set_cons_succ, List.set_cons_zero]
    go_wp2_with fail
    refine (cmp_intB xc yc c2 HC.out.2.2.1 w').mono ?_
    rintro e wz ⟨rfl, hbz⟩
    go_wp2
    exact ⟨rfl, hbz, rfl⟩
  case o15g =>
    intro w' hb v1 hv1 v2 hv2 v3 hv3
    obtain rfl : v1 = _ := hv1
    obtain rfl : v2 = _ := hv2
    obtain rfl : v3 = _ := hv3
    show wpList _ _ _ _ _ _
    simp only [Grow.dstOf, List.getElem?_toArray, List.getElem?_cons_succ, List.getElem?_cons_zero, Option.bind_some, Act.put, List.setIfInBounds_toArray, List.set_cons_succ, List.set_cons_zero]
    go_wp2
    exact ⟨n3_new _ _ _ _, ext_alloc _ _, rfl⟩
  case o16g =>
    intro w' hb v1 hv1
    obtain ⟨g9, rfl, e0, e1, e2⟩ := hv1
    show wpList _ _ _ _ _ _
    simp only [Grow.dstOf, List.getElem?_toArray, List.getElem?_cons_succ, List.getElem?_cons_zero, Option.bind_some, Act.put, List.setIfInBounds_toArray, List.set_cons_succ, List.set_cons_zero]
    go_wp2_with fail
    refine (or_threeB c0 c1 c2 q HC.out.2.2.2 g9 w' e0 e1 e2).mono ?_
    rintro e wz ⟨rfl, hbz⟩
    go_wp2
    exact ⟨rfl, hbz, rfl⟩
  intro w2' hbz u0 hu0 u1 hu1 u2 hu2 u3 hu3 u4 hu4 u5 hu5 u6 hu6 u7 hu7 u8 hu8 u9 hu9 u10 hu10 u11 hu11 u12 hu12 u13 hu13 u14 hu14 u15 hu15 u16 hu16
  obtain rfl : u16 = _ := hu16
  clear hu0 hu1 hu2 hu3 hu4 hu5 hu6 hu7 hu8 hu9 hu10 hu11 hu12 hu13 hu14 hu15
  replace HR_a := Lib.hid (HR_a.out.ext hbz)
  replace HR_b := Lib.hid (HR_b.out.ext hbz)
  replace HA := Lib.hid (HA.out.ext hbz)
  replace HB := Lib.hid (HB.out.ext hbz)
  replace HW := Lib.hid (ext_trans HW.out hbz)
  clear c_a_0 c_a_1 c_a_2 c_a_3 c_b_0 c_b_1 c_b_2 c_b_3
  clear hbz
  show wpList _ _ _ _ _ _
  simp only [Act.put, List.setIfInBounds_toArray, List.set_cons_succ, List.set_cons_zero]
  by_cases hq : q = 0
  · subst hq
    have HV2 : Hid (N = if xp = [] then (if yp = [] then 0 else 1) else if yp = [] then -1 else cmpPs xp yp) := Lib.hid (HV.out.trans (if_neg (by decide)))
    clear HV HC
    obtain ⟨c_a_0, c_a_1, c_a_2, c_a_3⟩ := zs4 HR_a.out
    obtain ⟨c_b_0, c_b_1, c_b_2, c_b_3⟩ := zs4 HR_b.out
    by_cases hxp : xp.length = 0
    · have hx0 : ((xp.length : Int) == 0) = true := by rw [hxp]; rfl
      have hxe : xp = [] := List.eq_nil_of_length_eq_zero hxp
      obtain ⟨z, hz⟩ : ∃ z, cmpI (yp.length : Int) (xp.length : Int) = z := ⟨_, rfl⟩
      have HZ := Lib.hid hz
      have HN : Hid (N = z) := Lib.hid (by
        rw [HV2.out, if_pos hxe, ← hz, hxp]
        by_cases h : yp = []
        · rw [if_pos h, h]; rfl
        · rw [if_neg h]; have := List.length_pos_iff.2 h; unfold cmpI; rw [if_neg (by omega), if_pos (by omega)])
      clear hz hxp hxe HV2
      go_wp2_with fail
      refine (cmp_intB ((yp.length : Int)) ((xp.length : Int)) (z) HZ.out _).mono ?_
      rintro e w3' ⟨rfl, hbz⟩
      replace HR_a := Lib.hid (HR_a.out.ext hbz)
      replace HR_b := Lib.hid (HR_b.out.ext hbz)
      replace HA := Lib.hid (HA.out.ext hbz)
      replace HB := Lib.hid (HB.out.ext hbz)
      replace HW := Lib.hid (ext_trans HW.out hbz)
      clear c_a_0 c_a_1 c_a_2 c_a_3 c_b_0 c_b_1 c_b_2 c_b_3
      clear hbz
      go_wp2
      exact bodyPost_ret (v := .int .i64 (z)) (by simp [results, Tryz.results47, go_sem]) rfl ⟨by rw [HN.out], HW.out⟩
    · have hx0 : ((xp.length : Int) == 0) = false := beq_eq_false_iff_ne.2 (by omega)
      have hxe : xp ≠ [] := fun e => hxp (by rw [e]; rfl)
      have HV3 := Lib.hid (HV2.out.trans (if_neg hxe))
      clear hxe HV2
      by_cases hyp : yp.length = 0
      · have hy0 : ((yp.length : Int) == 0) = true := by rw [hyp]; rfl
        have hye : yp = [] := List.eq_nil_of_length_eq_zero hyp
        have HZ : Hid (cmpI (yp.length : Int) (xp.length : Int) = -1) := Lib.hid (by unfold cmpI; rw [if_pos (by omega)])
        have HN := Lib.hid (HV3.out.trans (if_pos hye))
        clear hyp hye HV3 hxp
        go_wp2_with fail
        refine (cmp_intB ((yp.length : Int)) ((xp.length : Int)) (-1) HZ.out _).mono ?_
        rintro e w3' ⟨rfl, hbz⟩
        replace HR_a := Lib.hid (HR_a.out.ext hbz)
        replace HR_b := Lib.hid (HR_b.out.ext hbz)
        replace HA := Lib.hid (HA.out.ext hbz)
        replace HB := Lib.hid (HB.out.ext hbz)
        replace HW := Lib.hid (ext_trans HW.out hbz)
        clear c_a_0 c_a_1 c_a_2 c_a_3 c_b_0 c_b_1 c_b_2 c_b_3
        clear hbz
        go_wp2
        exact bodyPost_ret (v := .int .i64 (-1)) (by simp [results, Tryz.results47, go_sem]) rfl ⟨by rw [HN.out], HW.out⟩
      · have hy0 : ((yp.length : Int) == 0) = false := beq_eq_false_iff_ne.2 (by omega)
        have hye : yp ≠ [] := fun e => hyp (by rw [e]; rfl)
        have HN := Lib.hid (HV3.out.trans (if_neg hye))
        clear hye HV3 hxp hyp
        obtain ⟨m, hm, hm1, hm2, hm3⟩ : ∃ m : Nat, min (xp.length : Int) (yp.length : Int) = (m : Int) ∧ m ≤ xp.length ∧ m ≤ yp.length ∧ (m = xp.length ∨ m = yp.length) := by
          by_cases h : xp.length ≤ yp.length
          · exact ⟨xp.length, by omega, by omega, by omega, .inl rfl⟩
          · exact ⟨yp.length, by omega, by omega, by omega, .inr rfl⟩
        go_wp2
        -- the loop
        clear hx0 hy0
        go_loopw [52] (fun i wr => ∃ k : Nat, k ≤ m ∧ i = .int .i64 (k : Int) ∧ Hid (cmpPs xp yp = cmpPs (xp.drop k) (yp.drop k)) ∧ (RH wr w.heap.size #[.int .i64 (xa), .int .i64 (xb), .int .i64 (xc), .slice aa xp.length ca] 29) ∧ (RH wr (w.heap.size + 1) #[.int .i64 (ya), .int .i64 (yb), .int .i64 (yc), .slice ab yp.length cb] 29) ∧ (SlS wr aa xp ca) ∧ (SlS wr ab yp cb) ∧ (Below w.heap.size w wr)) (fun i _ => m - (intOf i).toNat)
        case atStart => exact ⟨0, by omega, rfl, rfl, HR_a.out, HR_b.out, HA.out, HB.out, HW.out⟩
        case round =>
          clear HR_a HR_b HA HB HW
          obtain ⟨k, hk, rfl, HP, q_HR_a, q_HR_b, q_HA, q_HB, q_HW⟩ := hrel
          have HR_a := Lib.hid q_HR_a
          have HR_b := Lib.hid q_HR_b
          have HA := Lib.hid q_HA
          have HB := Lib.hid q_HB
          have HW := Lib.hid q_HW
          clear q_HR_a q_HR_b q_HA q_HB q_HW
          clear c_a_0 c_a_1 c_a_2 c_a_3 c_b_0 c_b_1 c_b_2 c_b_3
          generalize hX : wr = X at *
          clear hX
          by_cases hlt : k < m
          · obtain ⟨pb, po, rfl, e0⟩ := HA.out.at (show k < xp.length by omega)
            obtain ⟨pc, pd, rfl, f0⟩ := HB.out.at (show k < yp.length by omega)
            have hu1 : xp[k].size ≤ maxLen := HZ1.out _ (List.getElem_mem _)
            have hu2 : yp[k].size ≤ maxLen := HZ2.out _ (List.getElem_mem _)
            have HO : Hid (cmpPs xp yp = orI (cmpP xp[k] yp[k]) (cmpPs (xp.drop (k + 1)) (yp.drop (k + 1)))) := Lib.hid (by rw [HP.out, drop_cons' (show k < xp.length by omega), drop_cons' (show k < yp.length by omega)]; rfl)
            generalize xp[k] = u at *
            generalize yp[k] = v at *
            have HCP := Lib.hid (fun W9 => refComparePre_at u v hu1 hu2 W9)
            generalize cmpP u v = z at *
            have hk0 : (0 : Int) ≤ (k : Int) := Int.natCast_nonneg _
            have hk1 : (k : Int) < (xp.length : Int) := by omega
            have hk2 : (k : Int) < (yp.length : Int) := by omega
            have hk3 : (k : Int) < (m : Int) := by omega
            clear hu1 hu2 HP
            obtain ⟨-, -, -, c_a_3⟩ := zs4 HR_a.out
            obtain ⟨-, -, -, c_b_3⟩ := zs4 HR_b.out
            go_upto_region 9 with (fail)
            refine Grow.wp_region_grow 11 [TP.eq (.pointer (some ⟨w.heap.size, 3, none⟩)), TP.eq (.slice (some ⟨pb, po, none⟩) xp.length ca), TP.eq (.int .i64 ((k : Int))), TP.eq (.pointer (some ⟨pb, po + k, none⟩)), TP.eq (.string u), TP.eq (.pointer (some ⟨(w.heap.size + 1), 3, none⟩)), TP.eq (.slice (some ⟨pc, pd, none⟩) yp.length cb), TP.eq (.int .i64 ((k : Int))), TP.eq (.pointer (some ⟨pc, pd + k, none⟩)), TP.eq (.string v), TP.eq (.int .i64 (z))] [[], [0], [], [1, 2], [3], [], [5], [], [6, 7], [8], [4, 9]] (by kernel_rfl) (by kernel_rfl) ⟨?o0h, ?o1h, ?o2h, ?o3h, ?o4h, ?o5h, ?o6h, ?o7h, ?o8h, ?o9h, ?o10h, trivial⟩ ?_
            case o0h | o2h | o5h | o7h =>
              intro w' hb
              show wpList _ _ _ _ _ _
              go_wp2
              exact ⟨rfl, Below.refl _ _, rfl⟩
            case o1h =>
              intro w' hb v1 hv1
              obtain rfl : v1 = _ := hv1
              have c_a_3' : w'.cell? ⟨w.heap.size, 3, none⟩ = some (.slice (some ⟨pb, po, none⟩) xp.length ca) := (hb.cell (World.block_lt_of_cell? _ _ c_a_3)).trans c_a_3
              show wpList _ _ _ _ _ _
              simp only [Grow.dstOf, List.getElem?_toArray, List.getElem?_cons_zero, Option.bind_some, Act.put, List.setIfInBounds_toArray, List.set_cons_succ, List.set_cons_zero]
              go_wp2
              exact ⟨rfl, Below.refl _ _, rfl⟩
            case o3h | o8h =>
              intro w' hb v1 hv1 v2 hv2
              obtain rfl : v1 = _ := hv1
              obtain rfl : v2 = _ := hv2
              show wpList _ _ _ _ _ _
              simp only [Grow.dstOf, List.getElem?_toArray, List.getElem?_cons_succ, List.getElem?_cons_zero, Option.bind_some, Act.put, List.setIfInBounds_toArray, List.set_cons_succ, List.set_cons_zero]
              go_wp2
              exact ⟨rfl, Below.refl _ _, rfl⟩
            case o4h | o6h | o9h =>
              intro w' hb v1 hv1
              obtain rfl : v1 = _ := hv1
              have e0' : w'.cell? ⟨pb, po + k, none⟩ = some (.string u) := (hb.cell (World.block_lt_of_cell? _ _ e0)).trans e0
              have c_b_3' : w'.cell? ⟨(w.heap.size + 1), 3, none⟩ = some (.slice (some ⟨pc, pd, none⟩) yp.length cb) := (hb.cell (World.block_lt_of_cell? _ _ c_b_3)).trans c_b_3
              have f0' : w'.cell? ⟨pc, pd + k, none⟩ = some (.string v) := (hb.cell (World.block_lt_of_cell? _ _ f0)).trans f0
              show wpList _ _ _ _ _ _
              simp only [Grow.dstOf, List.getElem?_toArray, List.getElem?_cons_succ, List.getElem?_cons_zero, Option.bind_some, Act.put, List.setIfInBounds_toArray, List.set_cons_succ, List.set_cons_zero]
              go_wp2
              exact ⟨rfl, Below.refl _ _, rfl⟩
            case o10h =>
              intro w' hb v1 hv1 v2 hv2
              obtain rfl : v1 = _ := hv1
              obtain rfl : v2 = _ := hv2
              show wpList _ _ _ _ _ _
              simp only [Grow.dstOf, List.getElem?_toArray, List.getElem?_cons_succ, List.getElem?_cons_zero, Option.bind_some, Act.put, List.setIfInBounds_toArray, List.set_cons_succ, List.set_cons_zero]
              go_wp2_with fail
              refine (HCP.out w').mono ?_
              rintro e wz ⟨rfl, hbz⟩
              go_wp2
              exact ⟨rfl, hbz, rfl⟩
            intro w3' hbz u0 hu0 u1 hu1 u2 hu2 u3 hu3 u4 hu4 u5 hu5 u6 hu6 u7 hu7 u8 hu8 u9 hu9 u10 hu10
            obtain rfl : u10 = _ := hu10
            clear hu0 hu1 hu2 hu3 hu4 hu5 hu6 hu7 hu8 hu9
            replace HR_a := Lib.hid (HR_a.out.ext hbz)
            replace HR_b := Lib.hid (HR_b.out.ext hbz)
            replace HA := Lib.hid (HA.out.ext hbz)
            replace HB := Lib.hid (HB.out.ext hbz)
            replace HW := Lib.hid (ext_trans HW.out hbz)
            clear c_a_3 c_b_3 e0 f0
            clear hbz
            show wpList _ _ _ _ _ _
            simp only [Act.put, List.setIfInBounds_toArray, List.set_cons_succ, List.set_cons_zero]
            by_cases hz : z = 0
            · subst hz
              have HO2 : Hid (cmpPs xp yp = cmpPs (xp.drop (k + 1)) (yp.drop (k + 1))) := Lib.hid HO.out
              go_wp2
              go_roundw
              case rel => exact ⟨k + 1, by omega, by go_num, HO2, HR_a.out, HR_b.out, HA.out, HB.out, HW.out⟩
              case measure => simp [intOf]; omega
            · have hne : (z != 0) = true := by simpa using hz
              have HN2 : Hid (N = z) := Lib.hid (by rw [HN.out, HO.out]; unfold orI; rw [if_neg hz])
              clear hz
              go_wp2
              exact bodyPost_ret (v := .int .i64 (z)) (by simp [results, Tryz.results47, go_sem]) rfl ⟨by rw [HN2.out], HW.out⟩
          · have HN2 : Hid (N = cmpI (xp.length : Int) (yp.length : Int)) := Lib.hid (by rw [HN.out, HP.out]; exact cmpPs_end (by omega) (by omega) (by omega))
            obtain ⟨z, hz⟩ : ∃ z, cmpI (xp.length : Int) (yp.length : Int) = z := ⟨_, rfl⟩
            rw [hz] at HN2
            have HZ := Lib.hid hz
            clear hz HP
            obtain ⟨c_a_0, c_a_1, c_a_2, c_a_3⟩ := zs4 HR_a.out
            obtain ⟨c_b_0, c_b_1, c_b_2, c_b_3⟩ := zs4 HR_b.out
            go_wp2_with fail
            refine (cmp_intB ((xp.length : Int)) ((yp.length : Int)) (z) HZ.out _).mono ?_
            rintro e w3' ⟨rfl, hbz⟩
            replace HR_a := Lib.hid (HR_a.out.ext hbz)
            replace HR_b := Lib.hid (HR_b.out.ext hbz)
            replace HA := Lib.hid (HA.out.ext hbz)
            replace HB := Lib.hid (HB.out.ext hbz)
            replace HW := Lib.hid (ext_trans HW.out hbz)
            clear c_a_0 c_a_1 c_a_2 c_a_3 c_b_0 c_b_1 c_b_2 c_b_3
            clear hbz
            go_wp2
            exact bodyPost_ret (v := .int .i64 (z)) (by simp [results, Tryz.results47, go_sem]) rfl ⟨by rw [HN2.out], HW.out⟩
  · have hne : (q != 0) = true := by simpa using hq
    have HN := Lib.hid (HV.out.trans (if_pos hq))
    clear hq HV
    go_wp2
    exact bodyPost_ret (v := .int .i64 (q)) (by simp [results, Tryz.results47, go_sem]) rfl ⟨by rw [HN.out], HW.out⟩
end Tx
end Go.Proofs.YtiogfdkdhfmamaaGreatDoor
