/- empty of the reference: a value of kind None within. Printed by gen_rvalh.py. Merge and Patch of the reference, in the program's terms. Printed by gen_rmp.py. same of package burgeelaw1. Printed by gen_lawpms.py. -/
import Derived.Test.YtkjgifhklajifaaPm18
import Derived.Test.YtkjgifhklajifaaPm21
import Derived.Test.YtkjgifhklajifaaPm23
import Derived.Test.YtkjgifhklajifaaPm25
import Derived.Test.YtkjgifhklajifaaPm17
import Derived.Test.YtkjgifhklajifaaPm22
namespace Go.Proofs.Ytkjgifhklajifaa
open Go.RowKit
namespace Fd
open _root_.Go.Proofs.Ytkjgifhklajifaa.Nt (RH RH.cell RH.box RH.lt RH.new RH.ext RH.fre RH.set RH.other)
open _root_.Go.Proofs.Ytkjgifhklajifaa.Rw (All2 All2.get All2.length All2.mono wpList_load_agg wp_stored Kept)
theorem noneL_anyR : ∀ l : List V, noneL l = l.any noneV
  | [] => by simp [noneL]
  | x :: l => by rw [noneL, noneL_anyR l]; rfl
theorem noneFs_anyR : ∀ l : List F, noneFs l = (l.any (fun f => decide (kind (vlF f) = 0)) || (l.map vlF).any noneV)
  | [] => by simp [noneFs]
  | .mk nm x :: l => by
    rw [noneFs, noneFs_anyR l, List.any_cons, List.map_cons, List.any_cons]
    show (decide (kind x = 0) || noneV x || (l.any (fun f => decide (kind (vlF f) = 0)) || (l.map vlF).any noneV)) = ((decide (kind x = 0) || l.any (fun f => decide (kind (vlF f) = 0))) || (noneV x || (l.map vlF).any noneV))
    generalize l.any (fun f => decide (kind (vlF f) = 0)) = A
    generalize (l.map vlF).any noneV = B
    generalize decide (kind x = 0) = C
    generalize noneV x = D
    cases A <;> cases B <;> cases C <;> cases D <;> rfl
theorem noneV_any (x : V) : noneV x = ((fields x).any (fun f => decide (kind (vlF f) = 0)) || (inner x).any noneV) := by
  obtain ⟨k, n, s, is, fs⟩ := x
  show (noneL is || noneFs fs) = _
  rw [noneL_anyR, noneFs_anyR]
  show _ = (fs.any _ || (is ++ fs.map vlF).any noneV)
  rw [List.any_append]
  generalize is.any noneV = A
  generalize fs.any (fun f => decide (kind (vlF f) = 0)) = B
  generalize (fs.map vlF).any noneV = C
  cases A <;> cases B <;> cases C <;> rfl
theorem any_takeR {α : Type} {p : α → Bool} {l : List α} {q : Nat} {x : α} (h : l[q]? = some x) (ht : (l.take q).any p = false) (hp : p x = false) : (l.take (q + 1)).any p = false := by
  rw [take_one h, List.any_append, ht]; simp [hp]
theorem any_yes {α : Type} {p : α → Bool} {l : List α} {q : Nat} {x : α} (h : l[q]? = some x) (hp : p x = true) : l.any p = true := List.any_eq_true.2 ⟨x, List.mem_of_getElem? h, hp⟩
def EmpAt (x : V) : Prop := ∀ (cs : List Value) (w : World), RepV w x cs → pN x ≤ 1048576 → Calls Try.prog 16 #[.agg cs.toArray] w fun e w' => e = .returned (.bool (noneV x)) ∧ Below w.heap.size w w'
set_option maxRecDepth 100000 in
set_option maxHeartbeats 8000000 in
theorem empty_step (x : V) (HI0 : ∀ y ∈ inner x, EmpAt y) : EmpAt x := by
  intro cs w hx hpn
  have HI := Lib.hid HI0
  have HPN := Lib.hid hpn
  have HX := Lib.hid hx
  have HNV := Lib.hid (noneV_any x)
  obtain ⟨k1, n1, s1, b1, b2, b3, b4, b5, b6, hcs⟩ := V5 hx
  obtain ⟨r, hr⟩ : ∃ r, noneV x = r := ⟨_, rfl⟩
  rw [hr] at HNV ⊢
  clear hr
  obtain ⟨l, hl⟩ : ∃ l, inner x = l := ⟨_, rfl⟩
  have HIN := Lib.hid hl
  have HLB : Hid (l.length ≤ 1048576) := Lib.hid (by rw [← hl]; have h1 := lenL_le (inner x); have h2 := pN_inner x; omega)
  have HPL : Hid (∀ y ∈ l, pN y ≤ 1048576) := Lib.hid (fun y hy => by
    rw [← hl] at hy
    have h1 := (pNL_mem hy).1
    have h2 := pN_inner x
    omega)
  obtain ⟨x0, hx0⟩ : ∃ x0, x0 = x := ⟨_, rfl⟩
  have HX0 : Hid (RepV w x0 cs ∧ x0 = x) := Lib.hid ⟨by rw [hx0]; exact hx, hx0⟩
  clear hl
  obtain ⟨k, n, s, is, fs⟩ := x
  obtain ⟨ai, ci, af, cf, EI, EF, rfl, i1, i2, i3, hV⟩ := RepV.open hx
  have HV := Lib.hid (And.intro hV.sf hV.rf)
  have hl2 : (fs.length : Int) ≤ 9223372036854775807 := by obtain ⟨_, _, e, k1, k2, _⟩ := hV.sf; cases e; unfold maxLen at k2; omega
  have HNF : Hid (r = (fs.any (fun f => decide (kind (vlF f) = 0)) || l.any noneV)) := Lib.hid (by rw [← HIN.out]; exact HNV.out)
  replace HI : Hid (∀ y ∈ l, EmpAt y) := Lib.hid (fun y hy => HI.out y (by rw [HIN.out]; exact hy))
  have HIX : Hid (∀ W, Below w.heap.size w W → Calls Try.prog 36 #[.agg #[.int .i64 k, .int .i64 n, .string s, .slice ai is.length ci, .slice af fs.length cf]] W (InnPost (.mk k n s is fs) W)) := Lib.hid (fun W hb => inner_at _ _ W (RepV.ext hb HX.out) (Nat.le_trans HPN.out (by omega)))
  clear hx hpn HI0 hV i1 i2 i3 hcs HX HPN HX0 hx0 HNV
  go_enter Try.func16, Try.ntmps16
  go_upto_region 1 with (fail)
  refine wp_box1 fun W hszW hbW hA => ?_
  have a4 : W.cell? ⟨w.heap.size, 4, none⟩ = some (.slice af fs.length cf) := hA.2 4
  have HA := Lib.hid hA
  have HBW := Lib.hid hbW
  clear hszW hA hbW
  go_wp2_with fail
  go_loopw [10] (fun i wr => ∃ q : Nat, q ≤ fs.length ∧ i = .int .i64 (q : Int) ∧ Hid ((fs.take q).any (fun f => decide (kind (vlF f) = 0)) = false) ∧ Hid (Below w.heap.size w wr) ∧ Hid (Box wr w.heap.size #[.int .i64 k, .int .i64 n, .string s, .slice ai is.length ci, .slice af fs.length cf])) (fun i _ => fs.length - (intOf i).toNat)
  case atStart => exact ⟨0, Nat.zero_le _, rfl, Lib.hid (by simp), HBW, HA⟩
  case round =>
    clear HBW HA
    obtain ⟨q, hq, rfl, HQ, HW, HB⟩ := hrel
    generalize hXX : wr = X at *
    clear hXX a4
    by_cases hlt : q < fs.length
    · obtain ⟨f, hfu⟩ : ∃ f, fs[q]? = some f := ⟨_, List.getElem?_eq_getElem hlt⟩
      obtain ⟨cy, hcy, hrw0⟩ := All2.get HV.out.2 hfu
      have hry := RepF.ext HW.out hrw0
      obtain ⟨p, o, e0, hp0, hcell⟩ := sl_elem (HV.out.1.ext HW.out) (all_len (fun _ _ => RepF.len) HV.out.2) (by omega) hcy
      subst e0
      obtain ⟨nm', y⟩ := f
      have hry2 := hrw0
      simp only [RepF] at hry2
      obtain ⟨cv5, rfl, hnm, hrv⟩ := hry2
      obtain ⟨ky, ny, sy, a1, m1, r1, a2, m2, r2, rfl⟩ := V5 hrv
      have HFU := Lib.hid hfu
      have HNM := Lib.hid hnm
      have HRW := Lib.hid hrv
      have HRF := Lib.hid hrw0
      have HINF := Lib.hid (f_info hry)
      have HONE := Lib.hid (all_arr (RepF.one hry))
      have hqi : (q : Int) < (fs.length : Int) := by omega
      clear hfu hcy hrw0 hry hnm hrv hp0
      go_upto_region 4 with (first | (refine wpList_load_agg rfl _ _ rfl p (o + q * 6) (by rfl) [.string nm', .int .i64 ky, .int .i64 ny, .string sy, .slice a1 m1 r1, .slice a2 m2 r2] (fun j v hj => by rw [Nat.add_assoc]; exact hcell j v hj) _ Try.underlying38 rfl HINF.out ?_) | (refine wpList_store_row rfl _ _ _ rfl X.heap.size #[.string nm', .int .i64 ky, .int .i64 ny, .string sy, .slice a1 m1 r1, .slice a2 m2 r2] rfl rfl _ _ (RH.new _ _ _) HINF.out rfl HONE.out ?_))
      refine wp_stored fun Y hbY hRf => ?_
      have HWY := Lib.hid (ext_trans HW.out hbY)
      have HRFY := Lib.hid hRf
      have f0 : Y.cell? ⟨X.heap.size, 0, none⟩ = some (.string nm') := hRf.cell 0
      have HCS : Hid (∀ (j : Nat) (v : Value), [Value.int .i64 ky, .int .i64 ny, .string sy, .slice a1 m1 r1, .slice a2 m2 r2][j]? = some v → Y.cell? ⟨X.heap.size, 1 + j, none⟩ = some v) := Lib.hid (fun j v hj => by
        rw [hRf.cell, Nat.add_comm]; simpa using hj)
      have HBY : Hid (Box Y w.heap.size #[.int .i64 k, .int .i64 n, .string s, .slice ai is.length ci, .slice (some ⟨p, o, none⟩) fs.length cf]) := Lib.hid (HB.out.ext hbY)
      generalize X.heap.size = fb at *
      clear hcell HINF HONE
      have f1 : Y.cell? ⟨fb, 1, none⟩ = some (.int .i64 ky) := HRFY.out.cell 1
      have HKY : Hid (kind y = ky) := Lib.hid (rep_kind HRW.out)
      clear hbY hRf HW HB
      by_cases hk0 : ky = 0
      · have HFN : Hid (r = true) := Lib.hid (by rw [HNF.out, any_yes HFU.out (decide_eq_true (by show kind y = 0; rw [HKY.out]; exact hk0))]; rfl)
        subst hk0
        clear HQ HKY
        go_wp2_with fail
        go_ret
        exact ⟨ret_bool HFN.out.symm, HWY.out⟩
      · have hkb : (ky == 0) = false := by simpa using hk0
        have HQ2 := Lib.hid (any_takeR (p := fun f => decide (kind (vlF f) = 0)) HFU.out HQ.out (decide_eq_false (by show ¬ kind y = 0; rw [HKY.out]; exact hk0)))
        clear HQ HKY
        go_wp2_with fail
        go_roundw
        case rel => exact ⟨q + 1, by omega, by go_num, HQ2, HWY, HBY⟩
        case measure => simp [intOf]; omega
    · obtain rfl : q = fs.length := by omega
      have HNL : Hid (r = l.any noneV) := Lib.hid (by rw [HNF.out]; have := HQ.out; rw [List.take_length] at this; rw [this]; rfl)
      have a0 : X.cell? ⟨w.heap.size, 0, none⟩ = some (.int .i64 k) := HB.out.2 0
      have a1 : X.cell? ⟨w.heap.size, 1, none⟩ = some (.int .i64 n) := HB.out.2 1
      have a2 : X.cell? ⟨w.heap.size, 2, none⟩ = some (.string s) := HB.out.2 2
      have a3 : X.cell? ⟨w.heap.size, 3, none⟩ = some (.slice ai is.length ci) := HB.out.2 3
      have a4 : X.cell? ⟨w.heap.size, 4, none⟩ = some (.slice af fs.length cf) := HB.out.2 4
      clear HQ HNF HB hq hlt
      go_wp2_with fail
      refine (HIX.out X HW.out).mono ?_
      rintro e w1 ⟨a, c, E, rfl, hO, hb1⟩
      have HO1 := Lib.hid hO
      have HW1 := Lib.hid hb1
      rw [HIN.out] at HO1 ⊢
      have hll : l.length ≤ 1048576 := HLB.out
      clear a0 a1 a2 a3 a4 hO hb1
      go_wp2_with fail
      go_loopw [22] (fun i wr => ∃ q : Nat, q ≤ l.length ∧ i = .int .i64 (q : Int) ∧ Hid ((l.take q).any noneV = false) ∧ Hid (Below X.heap.size X wr) ∧ Hid (OwnV X wr l (.slice a l.length c) E)) (fun i _ => l.length - (intOf i).toNat)
      case atStart => exact ⟨0, Nat.zero_le _, rfl, Lib.hid (by simp), HW1, HO1⟩
      case round =>
        clear HO1 HW1
        obtain ⟨q, hq, rfl, HQ, HWX, HO⟩ := hrel
        generalize hXX : wr = Z at *
        clear hXX
        by_cases hlt : q < l.length
        · obtain ⟨y, hy⟩ : ∃ y, l[q]? = some y := ⟨_, List.getElem?_eq_getElem hlt⟩
          obtain ⟨cy, hcy, hry0⟩ := All2.get HO.out.rep hy
          obtain ⟨p, o, e0, hp0, hcell⟩ := sl_elem HO.out.sl HO.out.five (by omega) hcy
          subst e0
          have HRY : Hid (RepV Z y cy) := Lib.hid (RepV.ext HWX.out hry0)
          obtain ⟨ky, ny, sy, a1, m1, r1, a2, m2, r2, rfl⟩ := V5 hry0
          have HYU := Lib.hid hy
          have HINF := Lib.hid (v_info hry0)
          have HONE := Lib.hid (all_arr (RepV.one hry0))
          have hqi : (q : Int) < (l.length : Int) := by omega
          clear hy hcy hry0 hp0
          go_upto_region 10 with (first | (refine wpList_load_agg rfl _ _ rfl p (o + q * 5) (by rfl) [.int .i64 ky, .int .i64 ny, .string sy, .slice a1 m1 r1, .slice a2 m2 r2] (fun j v hj => by rw [Nat.add_assoc]; exact hcell j v hj) _ Try.underlying25 rfl HINF.out ?_) | (refine wpList_store_row rfl _ _ _ rfl Z.heap.size #[.int .i64 ky, .int .i64 ny, .string sy, .slice a1 m1 r1, .slice a2 m2 r2] rfl rfl _ _ (RH.new _ _ _) HINF.out rfl HONE.out ?_))
          refine wp_stored fun Y hbY hRf => ?_
          have HOY := Lib.hid (HO.out.ext hbY)
          have HWY := Lib.hid (ext_trans HWX.out hbY)
          have HRC := Lib.hid (HI.out y (List.mem_of_getElem? HYU.out) _ Y (RepV.ext hbY HRY.out) (HPL.out y (List.mem_of_getElem? HYU.out)))
          have f0 : Y.cell? ⟨Z.heap.size, 0, none⟩ = some (.int .i64 ky) := hRf.cell 0
          have f1 : Y.cell? ⟨Z.heap.size, 1, none⟩ = some (.int .i64 ny) := hRf.cell 1
          have f2 : Y.cell? ⟨Z.heap.size, 2, none⟩ = some (.string sy) := hRf.cell 2
          have f3 : Y.cell? ⟨Z.heap.size, 3, none⟩ = some (.slice a1 m1 r1) := hRf.cell 3
          have f4 : Y.cell? ⟨Z.heap.size, 4, none⟩ = some (.slice a2 m2 r2) := hRf.cell 4
          generalize Z.heap.size = fb at *
          obtain ⟨z, hz⟩ : ∃ z, noneV y = z := ⟨_, rfl⟩
          have HZ := Lib.hid hz
          rw [hz] at HRC
          clear hbY hRf hcell HO HWX HINF HONE HRY hz
          go_wp2_with fail
          refine HRC.out.mono ?_
          rintro e w3 ⟨rfl, hb3⟩
          have HOZ := Lib.hid (HOY.out.ext hb3)
          have HWZ := Lib.hid (ext_trans HWY.out hb3)
          clear f0 f1 f2 f3 f4 hb3 HRC HOY HWY
          cases z with
          | true =>
            have HFN : Hid (r = true) := Lib.hid (by rw [HNL.out]; exact any_yes HYU.out HZ.out)
            go_wp2_with fail
            go_ret
            exact ⟨ret_bool HFN.out.symm, ext_trans HW.out HWZ.out⟩
          | false =>
            have HQ2 := Lib.hid (any_takeR HYU.out HQ.out HZ.out)
            clear HQ
            go_wp2_with fail
            go_roundw
            case rel => exact ⟨q + 1, by omega, by go_num, HQ2, HWZ, HOZ⟩
            case measure => simp [intOf]; omega
        · obtain rfl : q = l.length := by omega
          have HFN : Hid (r = false) := Lib.hid (by rw [HNL.out]; have := HQ.out; rwa [List.take_length] at this)
          go_wp2_with fail
          go_ret
          exact ⟨ret_bool HFN.out.symm, ext_trans HW.out HWX.out⟩
mutual
theorem empV : ∀ x : V, EmpAt x
  | .mk k n s is fs => empty_step _ (fun y hy => (List.mem_append.1 hy).elim (fun h => empL is y h) (fun h => by
      obtain ⟨f, hf, e⟩ := List.mem_map.1 h
      rw [← e]
      exact empF fs f hf))
theorem empL : ∀ l : List V, ∀ x ∈ l, EmpAt x
  | [] => fun _ h => by cases h
  | y :: l => fun x h => (List.mem_cons.1 h).elim (fun e => by rw [e]; exact empV y) (fun h => empL l x h)
theorem empF : ∀ l : List F, ∀ f ∈ l, EmpAt (vlF f)
  | [] => fun _ h => by cases h
  | .mk nm y :: l => fun f h => (List.mem_cons.1 h).elim (fun e => by rw [e]; exact empV y) (fun h => empF l f h)
end
end Fd
end Go.Proofs.Ytkjgifhklajifaa
namespace Go.Proofs.Ytkjgifhklajifaa
open Go.RowKit
namespace Fd
open _root_.Go.Proofs.Ytkjgifhklajifaa.Nt (RH RH.cell RH.box RH.lt RH.new RH.ext RH.fre RH.set RH.other RH.row RH.row_other)
open _root_.Go.Proofs.Ytkjgifhklajifaa.Rw (wpList_load_agg wp_stored Kept)
theorem chk_few {x : V} (h : pN x ≤ 1048576) (hc : chkF x = 0) : pN x ≤ 1000 := by
  unfold chkF at hc
  split at hc
  · cases hc
  · next hn =>
    have h1 : ¬ (1000 : Int) < IntKind.i64.wrap (pN x : Int) := fun e => hn (.inl e)
    rw [IntKind.wrap_i64] at h1
    omega
set_option maxRecDepth 100000 in
set_option maxHeartbeats 16000000 in
theorem refMerge_at (x y : V) (cx cy : List Value) (w : World) (hx : RepV w x cx) (hy : RepV w y cy) (px : pN x ≤ 1048576) (py : pN y ≤ 1048576) : Calls Try.prog 5 #[.agg cx.toArray, .agg cy.toArray] w (ResPost (MergeF x y) w) := by
  obtain ⟨k1, n1, s1, b1, b2, b3, b4, b5, b6, rfl⟩ := V5 hx
  obtain ⟨k2, n2, s2, e1, e2, e3, e4, e5, e6, rfl⟩ := V5 hy
  have HX := Lib.hid hx
  have HY := Lib.hid hy
  have HPX := Lib.hid px
  have HPY := Lib.hid py
  obtain ⟨z1, hz1⟩ : ∃ z, chkF x = z := ⟨_, rfl⟩
  obtain ⟨z2, hz2⟩ : ∃ z, chkF y = z := ⟨_, rfl⟩
  have HZ1 := Lib.hid hz1
  have HZ2 := Lib.hid hz2
  have HC : Hid (MergeF x y = if (if z1 ≠ 0 then z1 else z2) ≠ 0 then (V0, if z1 ≠ 0 then z1 else z2) else chkdF (mergeV x y)) := Lib.hid (by rw [← hz1, ← hz2]; rfl)
  clear hx hy hz1 hz2 px py
  go_enter Try.func5, Try.ntmps5
  go_upto_region 1 with (fail)
  refine wp_vr3 fun W hbW hR1 hR2 hR3 => ?_
  obtain ⟨a0, a1, a2, a3, a4⟩ := va5 hR1
  have HR1 := Lib.hid hR1
  have HR2 := Lib.hid hR2
  have HR3 := Lib.hid hR3
  have HBW := Lib.hid hbW
  clear hR1 hR2 hR3 hbW
  go_wp2_with fail
  refine (refCheck_at x _ W (RepV.ext HBW.out HX.out) HPX.out).mono ?_
  rintro e w1 ⟨rfl, hb1⟩
  rw [HZ1.out]
  have HB1 := Lib.hid (ext_trans HBW.out hb1)
  have HQ1 := Lib.hid (HR1.out.ext hb1)
  have HQ2 := Lib.hid (HR2.out.ext hb1)
  have HQ3 := Lib.hid (HR3.out.ext hb1)
  clear a0 a1 a2 a3 a4 hb1 HR1 HR2 HR3
  by_cases h : z1 = 0
  · subst h
    replace HC : Hid (MergeF x y = if z2 ≠ 0 then (V0, z2) else chkdF (mergeV x y)) := HC
    obtain ⟨d0, d1, d2, d3, d4⟩ := va5 HQ2.out
    go_wp2_with fail
    refine (refCheck_at y _ w1 (RepV.ext HB1.out HY.out) HPY.out).mono ?_
    rintro e w2 ⟨rfl, hb2⟩
    rw [HZ2.out]
    have HB2 := Lib.hid (ext_trans HB1.out hb2)
    have HP1 := Lib.hid (HQ1.out.ext hb2)
    have HP2 := Lib.hid (HQ2.out.ext hb2)
    have HP3 := Lib.hid (HQ3.out.ext hb2)
    clear d0 d1 d2 d3 d4 hb2 HQ1 HQ2 HQ3
    by_cases h2 : z2 = 0
    · have HN := Lib.hid (HC.out.trans (if_neg (by rw [h2]; simp)))
      subst h2
      clear HC
      have HCK : Hid (chkV x = 0 ∧ chkV y = 0) := Lib.hid ⟨chkF_chkV HZ1.out, chkF_chkV HZ2.out⟩
      have HPN : Hid (pN (mergeV x y) ≤ 1048576) := Lib.hid (by have h1 := chk_few HPX.out HZ1.out; have h2 := chk_few HPY.out HZ2.out; have h3 := pN_merge HCK.out.1 HCK.out.2; omega)
      have HLT : Hid (w.heap.size + 3 ≤ w2.heap.size) := Lib.hid HP3.out.lt
      obtain ⟨a0, a1, a2, a3, a4⟩ := va5 HP1.out
      obtain ⟨d0, d1, d2, d3, d4⟩ := va5 HP2.out
      have HOX : Hid (On (inD (fun _ => True) w.heap.size (w.heap.size + 3)) (fun Z => RepV Z x [.int .i64 k1, .int .i64 n1, .string s1, .slice b1 b2 b3, .slice b4 b5 b6]) w2) := Lib.hid (On.start (RepV.on HX.out) HB2.out)
      have HOY : Hid (On (inD (fun _ => True) w.heap.size (w.heap.size + 3)) (fun Z => RepV Z y [.int .i64 k2, .int .i64 n2, .string s2, .slice e1 e2 e3, .slice e4 e5 e6]) w2) := Lib.hid (On.start (RepV.on HY.out) HB2.out)
      go_upto_region 8 with (first
        | (go_at_call 13; refine (mdV y (inD (fun _ => True) w.heap.size (w.heap.size + 3)) x _ _ w2 HOX.out HOY.out HCK.out.1 HCK.out.2).mono ?_; rintro e w3 ⟨c, rfl, hon, hb3⟩; have hO3 := On.calls hon HLT.out; obtain ⟨k5, n5, s5, a5, m5, r5, a6, m6, r6, rfl⟩ := V5on hO3; have HB3 := Lib.hid (ext_trans HB2.out hb3); have HO3 := Lib.hid hO3; have HQ3 := Lib.hid (HP3.out.ext hb3); clear hon hO3 hb3 a0 a1 a2 a3 a4 d0 d1 d2 d3 d4 HP1 HP2 HP3)
        | (refine wpList_store_row rfl _ _ _ rfl w3.heap.size (vAr k5 n5 s5 (.slice a5 m5 r5) (.slice a6 m6 r6)) rfl rfl _ _ (RH.new _ _ _) (v_inf5 _ _ _ _ _) rfl (v_all5 _ _ _ _ _ _ _ _ _) ?_))
      refine wp_stored fun Y hbY hRo => ?_
      have HBY := Lib.hid (ext_trans HB3.out hbY)
      have HOZ := Lib.hid (HO3.out.below hbY)
      have HY3 := Lib.hid (HQ3.out.ext hbY)
      have HRO := Lib.hid hRo
      generalize w3.heap.size = ob at *
      clear hbY hRo HB3 HO3 HQ3 HLT
      obtain ⟨o0, o1, o2, o3, o4⟩ := va5 HRO.out
      obtain ⟨z3, hz3⟩ : ∃ z, chkF (mergeV x y) = z := ⟨_, rfl⟩
      have HZ3 := Lib.hid hz3
      have HND : Hid (MergeF x y = if z3 ≠ 0 then (V0, z3) else (mergeV x y, 0)) := Lib.hid (HN.out.trans (by rw [← hz3]; rfl))
      clear HN hz3
      go_wp2_with fail
      refine (refCheck_at (mergeV x y) _ Y HOZ.out.now HPN.out).mono ?_
      rintro e w4 ⟨rfl, hb4⟩
      rw [HZ3.out]
      have HB4 := Lib.hid (ext_trans HBY.out hb4)
      have HO4 := Lib.hid (HOZ.out.below hb4)
      have HY4 := Lib.hid (HY3.out.ext hb4)
      have HR4 := Lib.hid (HRO.out.ext hb4)
      clear o0 o1 o2 o3 o4 hb4 HBY HOZ HY3 HRO
      by_cases h3 : z3 = 0
      · have HN := Lib.hid (HND.out.trans (if_neg (by rw [h3]; simp)))
        subst h3
        obtain ⟨o0, o1, o2, o3, o4⟩ := va5 HR4.out
        clear HND
        go_wp2_with (refine wpList_store_row rfl _ _ _ rfl (w.heap.size + 2) (vAr k5 n5 s5 (.slice a5 m5 r5) (.slice a6 m6 r6)) rfl rfl _ _ (HY4.out) (v_inf5 _ _ _ _ _) rfl (v_all5 _ _ _ _ _ _ _ _ _) ?_)
        (try simp only [Exit.inBlock, Exit.then])
        refine bodyPost_ret (v := .tuple #[.agg (vAr k5 n5 s5 (.slice a5 m5 r5) (.slice a6 m6 r6)), .int .i64 0]) (results_row_tmp rfl _ _ _ _ _ _ _ _ rfl (HY4.out.row _) Try.underlying25 rfl (v_inf5 _ _ _ _ _) rfl) rfl ?_
        show ResPost (MergeF x y) w _ _
        rw [HN.out]
        exact ⟨_, rfl, On.now (On.setRow HO4.out (by omega) (by omega)), below_setRow HB4.out (by omega) _⟩
      · have HN := Lib.hid (HND.out.trans (if_pos h3))
        have hzb : (z3 != 0) = true := by simpa using h3
        clear HND
        go_wp2_with (refine wpList_store_row rfl _ _ _ rfl (w.heap.size + 2) (vAr 0 0 eB (.slice none 0 0) (.slice none 0 0)) rfl rfl _ _ (HY4.out) (v_inf5 _ _ _ _ _) rfl (v_all5 _ _ _ _ _ _ _ _ _) ?_)
        (try simp only [Exit.inBlock, Exit.then])
        refine bodyPost_ret (v := .tuple #[.agg (vAr 0 0 eB (.slice none 0 0) (.slice none 0 0)), .int .i64 z3]) (results_row_tmp rfl _ _ _ _ _ _ _ _ rfl (HY4.out.row _) Try.underlying25 rfl (v_inf5 _ _ _ _ _) rfl) rfl ?_
        show ResPost (MergeF x y) w _ _
        rw [HN.out]
        exact ⟨_, rfl, rep_zero _, below_setRow HB4.out (by omega) _⟩
    · have HN := Lib.hid (HC.out.trans (if_pos h2))
      have hzb : (z2 != 0) = true := by simpa using h2
      clear HC
      go_wp2_with (refine wpList_store_row rfl _ _ _ rfl (w.heap.size + 2) (vAr 0 0 eB (.slice none 0 0) (.slice none 0 0)) rfl rfl _ _ (HP3.out) (v_inf5 _ _ _ _ _) rfl (v_all5 _ _ _ _ _ _ _ _ _) ?_)
      (try simp only [Exit.inBlock, Exit.then])
      refine bodyPost_ret (v := .tuple #[.agg (vAr 0 0 eB (.slice none 0 0) (.slice none 0 0)), .int .i64 z2]) (results_row_tmp rfl _ _ _ _ _ _ _ _ rfl (HP3.out.row _) Try.underlying25 rfl (v_inf5 _ _ _ _ _) rfl) rfl ?_
      show ResPost (MergeF x y) w _ _
      rw [HN.out]
      exact ⟨_, rfl, rep_zero _, below_setRow HB2.out (by omega) _⟩
  · have HN := Lib.hid (HC.out.trans (by rw [if_pos h, if_pos h]))
    have hzb : (z1 != 0) = true := by simpa using h
    clear HC
    go_wp2_with (refine wpList_store_row rfl _ _ _ rfl (w.heap.size + 2) (vAr 0 0 eB (.slice none 0 0) (.slice none 0 0)) rfl rfl _ _ (HQ3.out) (v_inf5 _ _ _ _ _) rfl (v_all5 _ _ _ _ _ _ _ _ _) ?_)
    (try simp only [Exit.inBlock, Exit.then])
    refine bodyPost_ret (v := .tuple #[.agg (vAr 0 0 eB (.slice none 0 0) (.slice none 0 0)), .int .i64 z1]) (results_row_tmp rfl _ _ _ _ _ _ _ _ rfl (HQ3.out.row _) Try.underlying25 rfl (v_inf5 _ _ _ _ _) rfl) rfl ?_
    show ResPost (MergeF x y) w _ _
    rw [HN.out]
    exact ⟨_, rfl, rep_zero _, below_setRow HB1.out (by omega) _⟩
set_option maxRecDepth 100000 in
set_option maxHeartbeats 16000000 in
theorem refPatch_at (x y : V) (cx cy : List Value) (w : World) (hx : RepV w x cx) (hy : RepV w y cy) (px : pN x ≤ 1048576) (py : pN y ≤ 1048576) : Calls Try.prog 7 #[.agg cx.toArray, .agg cy.toArray] w (ResPost (PatchF x y) w) := by
  obtain ⟨k1, n1, s1, b1, b2, b3, b4, b5, b6, rfl⟩ := V5 hx
  obtain ⟨k2, n2, s2, e1, e2, e3, e4, e5, e6, rfl⟩ := V5 hy
  have HX := Lib.hid hx
  have HY := Lib.hid hy
  have HPX := Lib.hid px
  have HPY := Lib.hid py
  obtain ⟨z1, hz1⟩ : ∃ z, chkF x = z := ⟨_, rfl⟩
  obtain ⟨z2, hz2⟩ : ∃ z, chkF y = z := ⟨_, rfl⟩
  have HZ1 := Lib.hid hz1
  have HZ2 := Lib.hid hz2
  have HC : Hid (PatchF x y = if (if z1 ≠ 0 then z1 else z2) ≠ 0 then (V0, if z1 ≠ 0 then z1 else z2) else if noneV y = true then (V0, 3) else chkdF (patchV x y)) := Lib.hid (by rw [← hz1, ← hz2]; rfl)
  clear hx hy hz1 hz2 px py
  go_enter Try.func7, Try.ntmps7
  go_upto_region 1 with (fail)
  refine wp_vr3 fun W hbW hR1 hR2 hR3 => ?_
  obtain ⟨a0, a1, a2, a3, a4⟩ := va5 hR1
  have HR1 := Lib.hid hR1
  have HR2 := Lib.hid hR2
  have HR3 := Lib.hid hR3
  have HBW := Lib.hid hbW
  clear hR1 hR2 hR3 hbW
  go_wp2_with fail
  refine (refCheck_at x _ W (RepV.ext HBW.out HX.out) HPX.out).mono ?_
  rintro e w1 ⟨rfl, hb1⟩
  rw [HZ1.out]
  have HB1 := Lib.hid (ext_trans HBW.out hb1)
  have HQ1 := Lib.hid (HR1.out.ext hb1)
  have HQ2 := Lib.hid (HR2.out.ext hb1)
  have HQ3 := Lib.hid (HR3.out.ext hb1)
  clear a0 a1 a2 a3 a4 hb1 HR1 HR2 HR3
  by_cases h : z1 = 0
  · subst h
    replace HC : Hid (PatchF x y = if z2 ≠ 0 then (V0, z2) else if noneV y = true then (V0, 3) else chkdF (patchV x y)) := HC
    obtain ⟨d0, d1, d2, d3, d4⟩ := va5 HQ2.out
    go_wp2_with fail
    refine (refCheck_at y _ w1 (RepV.ext HB1.out HY.out) HPY.out).mono ?_
    rintro e w2 ⟨rfl, hb2⟩
    rw [HZ2.out]
    have HB2 := Lib.hid (ext_trans HB1.out hb2)
    have HP1 := Lib.hid (HQ1.out.ext hb2)
    have HP2 := Lib.hid (HQ2.out.ext hb2)
    have HP3 := Lib.hid (HQ3.out.ext hb2)
    clear d0 d1 d2 d3 d4 hb2 HQ1 HQ2 HQ3
    by_cases h2 : z2 = 0
    · have HN := Lib.hid (HC.out.trans (if_neg (by rw [h2]; simp)))
      subst h2
      clear HC
      obtain ⟨d0, d1, d2, d3, d4⟩ := va5 HP2.out
      go_wp2_with fail
      refine (empV y _ w2 (RepV.ext HB2.out HY.out) HPY.out).mono ?_
      rintro e w9 ⟨rfl, hb9⟩
      replace HB2 := Lib.hid (ext_trans HB2.out hb9)
      replace HP1 := Lib.hid (HP1.out.ext hb9)
      replace HP2 := Lib.hid (HP2.out.ext hb9)
      replace HP3 := Lib.hid (HP3.out.ext hb9)
      clear hb9 d0 d1 d2 d3 d4
      obtain ⟨nb, hnb⟩ : ∃ b, noneV y = b := ⟨_, rfl⟩
      rw [hnb]
      rw [hnb] at HN
      clear hnb
      generalize w9 = w2 at *
      cases nb
      · replace HN := Lib.hid (HN.out.trans (if_neg (by simp)))
        have HCK : Hid (chkV x = 0 ∧ chkV y = 0) := Lib.hid ⟨chkF_chkV HZ1.out, chkF_chkV HZ2.out⟩
        have HPN : Hid (pN (patchV x y) ≤ 1048576) := Lib.hid (by have h1 := chk_few HPX.out HZ1.out; have h2 := chk_few HPY.out HZ2.out; have h3 := pN_patch (x := x) y HCK.out.1; omega)
        have HLT : Hid (w.heap.size + 3 ≤ w2.heap.size) := Lib.hid HP3.out.lt
        obtain ⟨a0, a1, a2, a3, a4⟩ := va5 HP1.out
        obtain ⟨d0, d1, d2, d3, d4⟩ := va5 HP2.out
        have HOX : Hid (On (inD (fun _ => True) w.heap.size (w.heap.size + 3)) (fun Z => RepV Z x [.int .i64 k1, .int .i64 n1, .string s1, .slice b1 b2 b3, .slice b4 b5 b6]) w2) := Lib.hid (On.start (RepV.on HX.out) HB2.out)
        have HOY : Hid (On (inD (fun _ => True) w.heap.size (w.heap.size + 3)) (fun Z => RepV Z y [.int .i64 k2, .int .i64 n2, .string s2, .slice e1 e2 e3, .slice e4 e5 e6]) w2) := Lib.hid (On.start (RepV.on HY.out) HB2.out)
        go_upto_region 10 with (first
          | (go_at_call 17; refine (pdV x (inD (fun _ => True) w.heap.size (w.heap.size + 3)) y _ _ w2 HOX.out HOY.out HCK.out.1 HCK.out.2).mono ?_; rintro e w3 ⟨c, rfl, hon, hb3⟩; have hO3 := On.calls hon HLT.out; obtain ⟨k5, n5, s5, a5, m5, r5, a6, m6, r6, rfl⟩ := V5on hO3; have HB3 := Lib.hid (ext_trans HB2.out hb3); have HO3 := Lib.hid hO3; have HQ3 := Lib.hid (HP3.out.ext hb3); clear hon hO3 hb3 a0 a1 a2 a3 a4 d0 d1 d2 d3 d4 HP1 HP2 HP3)
          | (refine wpList_store_row rfl _ _ _ rfl w3.heap.size (vAr k5 n5 s5 (.slice a5 m5 r5) (.slice a6 m6 r6)) rfl rfl _ _ (RH.new _ _ _) (v_inf5 _ _ _ _ _) rfl (v_all5 _ _ _ _ _ _ _ _ _) ?_))
        refine wp_stored fun Y hbY hRo => ?_
        have HBY := Lib.hid (ext_trans HB3.out hbY)
        have HOZ := Lib.hid (HO3.out.below hbY)
        have HY3 := Lib.hid (HQ3.out.ext hbY)
        have HRO := Lib.hid hRo
        generalize w3.heap.size = ob at *
        clear hbY hRo HB3 HO3 HQ3 HLT
        obtain ⟨o0, o1, o2, o3, o4⟩ := va5 HRO.out
        obtain ⟨z3, hz3⟩ : ∃ z, chkF (patchV x y) = z := ⟨_, rfl⟩
        have HZ3 := Lib.hid hz3
        have HND : Hid (PatchF x y = if z3 ≠ 0 then (V0, z3) else (patchV x y, 0)) := Lib.hid (HN.out.trans (by rw [← hz3]; rfl))
        clear HN hz3
        go_wp2_with fail
        refine (refCheck_at (patchV x y) _ Y HOZ.out.now HPN.out).mono ?_
        rintro e w4 ⟨rfl, hb4⟩
        rw [HZ3.out]
        have HB4 := Lib.hid (ext_trans HBY.out hb4)
        have HO4 := Lib.hid (HOZ.out.below hb4)
        have HY4 := Lib.hid (HY3.out.ext hb4)
        have HR4 := Lib.hid (HRO.out.ext hb4)
        clear o0 o1 o2 o3 o4 hb4 HBY HOZ HY3 HRO
        by_cases h3 : z3 = 0
        · have HN := Lib.hid (HND.out.trans (if_neg (by rw [h3]; simp)))
          subst h3
          obtain ⟨o0, o1, o2, o3, o4⟩ := va5 HR4.out
          clear HND
          go_wp2_with (refine wpList_store_row rfl _ _ _ rfl (w.heap.size + 2) (vAr k5 n5 s5 (.slice a5 m5 r5) (.slice a6 m6 r6)) rfl rfl _ _ (HY4.out) (v_inf5 _ _ _ _ _) rfl (v_all5 _ _ _ _ _ _ _ _ _) ?_)
          (try simp only [Exit.inBlock, Exit.then])
          refine bodyPost_ret (v := .tuple #[.agg (vAr k5 n5 s5 (.slice a5 m5 r5) (.slice a6 m6 r6)), .int .i64 0]) (results_row_tmp rfl _ _ _ _ _ _ _ _ rfl (HY4.out.row _) Try.underlying25 rfl (v_inf5 _ _ _ _ _) rfl) rfl ?_
          show ResPost (PatchF x y) w _ _
          rw [HN.out]
          exact ⟨_, rfl, On.now (On.setRow HO4.out (by omega) (by omega)), below_setRow HB4.out (by omega) _⟩
        · have HN := Lib.hid (HND.out.trans (if_pos h3))
          have hzb : (z3 != 0) = true := by simpa using h3
          clear HND
          go_wp2_with (refine wpList_store_row rfl _ _ _ rfl (w.heap.size + 2) (vAr 0 0 eB (.slice none 0 0) (.slice none 0 0)) rfl rfl _ _ (HY4.out) (v_inf5 _ _ _ _ _) rfl (v_all5 _ _ _ _ _ _ _ _ _) ?_)
          (try simp only [Exit.inBlock, Exit.then])
          refine bodyPost_ret (v := .tuple #[.agg (vAr 0 0 eB (.slice none 0 0) (.slice none 0 0)), .int .i64 z3]) (results_row_tmp rfl _ _ _ _ _ _ _ _ rfl (HY4.out.row _) Try.underlying25 rfl (v_inf5 _ _ _ _ _) rfl) rfl ?_
          show ResPost (PatchF x y) w _ _
          rw [HN.out]
          exact ⟨_, rfl, rep_zero _, below_setRow HB4.out (by omega) _⟩
      · replace HN := Lib.hid (HN.out.trans (if_pos rfl))
        go_wp2_with (refine wpList_store_row rfl _ _ _ rfl (w.heap.size + 2) (vAr 0 0 eB (.slice none 0 0) (.slice none 0 0)) rfl rfl _ _ (HP3.out) (v_inf5 _ _ _ _ _) rfl (v_all5 _ _ _ _ _ _ _ _ _) ?_)
        (try simp only [Exit.inBlock, Exit.then])
        refine bodyPost_ret (v := .tuple #[.agg (vAr 0 0 eB (.slice none 0 0) (.slice none 0 0)), .int .i64 3]) (results_row_tmp rfl _ _ _ _ _ _ _ _ rfl (HP3.out.row _) Try.underlying25 rfl (v_inf5 _ _ _ _ _) rfl) rfl ?_
        show ResPost (PatchF x y) w _ _
        rw [HN.out]
        exact ⟨_, rfl, rep_zero _, below_setRow HB2.out (by omega) _⟩
    · have HN := Lib.hid (HC.out.trans (if_pos h2))
      have hzb : (z2 != 0) = true := by simpa using h2
      clear HC
      go_wp2_with (refine wpList_store_row rfl _ _ _ rfl (w.heap.size + 2) (vAr 0 0 eB (.slice none 0 0) (.slice none 0 0)) rfl rfl _ _ (HP3.out) (v_inf5 _ _ _ _ _) rfl (v_all5 _ _ _ _ _ _ _ _ _) ?_)
      (try simp only [Exit.inBlock, Exit.then])
      refine bodyPost_ret (v := .tuple #[.agg (vAr 0 0 eB (.slice none 0 0) (.slice none 0 0)), .int .i64 z2]) (results_row_tmp rfl _ _ _ _ _ _ _ _ rfl (HP3.out.row _) Try.underlying25 rfl (v_inf5 _ _ _ _ _) rfl) rfl ?_
      show ResPost (PatchF x y) w _ _
      rw [HN.out]
      exact ⟨_, rfl, rep_zero _, below_setRow HB2.out (by omega) _⟩
  · have HN := Lib.hid (HC.out.trans (by rw [if_pos h, if_pos h]))
    have hzb : (z1 != 0) = true := by simpa using h
    clear HC
    go_wp2_with (refine wpList_store_row rfl _ _ _ rfl (w.heap.size + 2) (vAr 0 0 eB (.slice none 0 0) (.slice none 0 0)) rfl rfl _ _ (HQ3.out) (v_inf5 _ _ _ _ _) rfl (v_all5 _ _ _ _ _ _ _ _ _) ?_)
    (try simp only [Exit.inBlock, Exit.then])
    refine bodyPost_ret (v := .tuple #[.agg (vAr 0 0 eB (.slice none 0 0) (.slice none 0 0)), .int .i64 z1]) (results_row_tmp rfl _ _ _ _ _ _ _ _ rfl (HQ3.out.row _) Try.underlying25 rfl (v_inf5 _ _ _ _ _) rfl) rfl ?_
    show ResPost (PatchF x y) w _ _
    rw [HN.out]
    exact ⟨_, rfl, rep_zero _, below_setRow HB1.out (by omega) _⟩
end Fd
end Go.Proofs.Ytkjgifhklajifaa
namespace Go.Proofs.Ytkjgifhklajifaa
open Go.RowKit
namespace Fd
open _root_.Go.Proofs.Ytkjgifhklajifaa.Nt (RH RH.cell RH.box RH.lt RH.new RH.ext RH.fre RH.set RH.other)
open _root_.Go.Proofs.Ytkjgifhklajifaa.Rw (wpList_load_agg wp_stored Kept Fresh)
set_option maxRecDepth 100000 in
set_option maxHeartbeats 16000000 in
theorem same_at (x y : V) (cx cy : List Value) (w : World) (hx : RepV w x cx) (hy : RepV w y cy) : Calls Try.prog 8 #[.agg cx.toArray, .agg cy.toArray] w fun e w' => e = .returned (.bool (decide (cmpV x y = 0))) ∧ Below w.heap.size w w' := by
  obtain ⟨k1, n1, s1, b1, b2, b3, b4, b5, b6, rfl⟩ := V5 hx
  obtain ⟨k2, n2, s2, e1, e2, e3, e4, e5, e6, rfl⟩ := V5 hy
  have HX := Lib.hid hx
  have HY := Lib.hid hy
  obtain ⟨z, hz⟩ : ∃ z, cmpV x y = z := ⟨_, rfl⟩
  have HZ := Lib.hid hz
  rw [hz]
  clear hx hy hz
  go_enter Try.func8, Try.ntmps8
  go_upto_region 1 with (fail)
  refine wp_vr2 fun W hbW hR1 hR2 => ?_
  obtain ⟨a0, a1, a2, a3, a4⟩ := va5 hR1
  obtain ⟨d0, d1, d2, d3, d4⟩ := va5 hR2
  have HBW := Lib.hid hbW
  clear hR1 hR2 hbW
  go_wp2_with fail
  refine (ref_at x y _ _ W (RepV.ext HBW.out HX.out) (RepV.ext HBW.out HY.out)).mono ?_
  rintro e w1 ⟨rfl, hb1⟩
  rw [HZ.out]
  have HB1 := Lib.hid (ext_trans HBW.out hb1)
  clear a0 a1 a2 a3 a4 d0 d1 d2 d3 d4 hb1
  go_wp2_with fail
  go_ret
  exact ⟨by by_cases h : z = 0 <;> simp [h], HB1.out⟩
end Fd
end Go.Proofs.Ytkjgifhklajifaa
