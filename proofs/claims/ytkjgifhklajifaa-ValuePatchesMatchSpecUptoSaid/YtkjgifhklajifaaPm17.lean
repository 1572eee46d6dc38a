/- Check, checkTwo and checked of package value. Printed by gen_vck.py. Plain: what Merge and Patch answer, with their errors; a value mended by its patch is the other one. No program stands in it. What Merge, Patch and their parts answer; a result in a cell beside one in a slot. checkTwo, checked, Merge and Patch of package value. Printed by gen_vmp.py. Within, printable and inner of the reference. Printed by gen_rval.py. -/
import Derived.Test.YtkjgifhklajifaaPm16
import Derived.Test.YtkjgifhklajifaaPm03
import Derived.Test.YtkjgifhklajifaaPm04
import Derived.Test.YtkjgifhklajifaaPm08
import Derived.Test.YtkjgifhklajifaaPm10
import Derived.Test.YtkjgifhklajifaaPm14
import Derived.Test.YtkjgifhklajifaaPm15
import Derived.Test.YtkjgifhklajifaaPm05
import Derived.Test.YtkjgifhklajifaaPm02
import Derived.Maps.AppendAt
namespace Go.Proofs.Ytkjgifhklajifaa
open Go.RowKit
namespace Fd
open _root_.Go.Proofs.Ytkjgifhklajifaa.Nt (RH RH.cell RH.box RH.lt RH.new RH.ext RH.fre RH.set RH.other)
open _root_.Go.Proofs.Ytkjgifhklajifaa.Rw (wpList_load_agg)
set_option maxRecDepth 100000 in
set_option maxHeartbeats 8000000 in
theorem check_at (x : V) (cs : List Value) (w : World) (h : RepV w x cs) : Calls Try.prog 19 #[.agg cs.toArray] w fun e w' => e = .returned (.int .i64 (chkF x)) ∧ Below w.heap.size w w' := by
  obtain ⟨k0, n0, s0, ai, m, q, af, m', q', rfl⟩ := V5 h
  have HX := Lib.hid h
  have HCK : Hid (∀ p c : Int, IntKind.i64.wrap (pN x : Int) = p → cW x = c → chkF x = if 1000 < p ∨ 8 < c then 2 else chkV x) := Lib.hid (fun p c h1 h2 => by unfold chkF; rw [h1, h2])
  clear h
  go_enter Try.func19, Try.ntmps19
  go_upto_region 1 with (fail)
  refine wp_box1 fun W hszW hbW hA => ?_
  have a0 : W.cell? ⟨w.heap.size, 0, none⟩ = some (.int .i64 k0) := hA.2 0
  have a1 : W.cell? ⟨w.heap.size, 1, none⟩ = some (.int .i64 n0) := hA.2 1
  have a2 : W.cell? ⟨w.heap.size, 2, none⟩ = some (.string s0) := hA.2 2
  have a3 : W.cell? ⟨w.heap.size, 3, none⟩ = some (.slice ai m q) := hA.2 3
  have a4 : W.cell? ⟨w.heap.size, 4, none⟩ = some (.slice af m' q') := hA.2 4
  have HA0 := Lib.hid hA.1
  clear hszW hA
  go_wp2_with fail
  refine (countV x _ W (RepV.ext hbW HX.out)).mono ?_
  rintro e w1 ⟨rfl, hb1⟩
  obtain ⟨pn, hpn⟩ : ∃ z, IntKind.i64.wrap (pN x : Int) = z := ⟨_, rfl⟩
  obtain ⟨cw, hcw⟩ : ∃ z, cW x = z := ⟨_, rfl⟩
  have HC := Lib.hid (HCK.out pn cw hpn hcw)
  rw [hpn, hcw]
  have hw1 := ext_trans hbW hb1
  replace a0 := cell_later hb1 a0
  replace a1 := cell_later hb1 a1
  replace a2 := cell_later hb1 a2
  replace a3 := cell_later hb1 a3
  replace a4 := cell_later hb1 a4
  clear hpn hcw HCK hbW hb1
  by_cases h1 : 1000 < pn
  · have HN := Lib.hid (HC.out.trans (if_pos (.inl h1)))
    clear HC
    go_wp2_with fail
    go_ret
    exact ⟨ret_int HN.out.symm, hw1⟩
  · by_cases h2 : 8 < cw
    · have HN := Lib.hid (HC.out.trans (if_pos (.inr h2)))
      clear HC
      go_wp2_with fail
      go_ret
      exact ⟨ret_int HN.out.symm, hw1⟩
    · have HN := Lib.hid (HC.out.trans (if_neg (fun h => h.elim h1 h2)))
      clear HC
      go_wp2_with fail
      refine (partV x _ w1 (RepV.ext hw1 HX.out)).mono ?_
      rintro e w2 ⟨rfl, hb2⟩
      go_wp2_with fail
      go_ret
      exact ⟨ret_int HN.out.symm, ext_trans hw1 hb2⟩
end Fd
end Go.Proofs.Ytkjgifhklajifaa
namespace Go.Proofs.Ytkjgifhklajifaa
namespace Fd
def ck2 (x y : V) : Int := if chkF x ≠ 0 then chkF x else chkF y
/-- a result, checked -/
def chkdF (x : V) : V × Int := if chkF x ≠ 0 then (V0, chkF x) else (x, 0)
def MergeF (x p : V) : V × Int := if ck2 x p ≠ 0 then (V0, ck2 x p) else chkdF (mergeV x p)
def PatchF (x y : V) : V × Int := if ck2 x y ≠ 0 then (V0, ck2 x y) else if noneV y = true then (V0, 3) else chkdF (patchV x y)
theorem chkF_chkV {x : V} (h : chkF x = 0) : chkV x = 0 := by
  unfold chkF at h
  split at h
  · cases h
  · exact h
theorem ck2_ok {x y : V} (h : ck2 x y = 0) : chkF x = 0 ∧ chkF y = 0 := by
  unfold ck2 at h
  split at h
  · next h1 => exact absurd h h1
  · next h1 => exact ⟨Classical.not_not.1 h1, h⟩
end Fd
end Go.Proofs.Ytkjgifhklajifaa
namespace Go.Proofs.Ytkjgifhklajifaa
open Go.RowKit
namespace Fd
open _root_.Go.Proofs.Ytkjgifhklajifaa.Nt (RH RH.cell RH.box RH.lt RH.new RH.ext RH.fre RH.set RH.other)
open _root_.Go.Proofs.Ytkjgifhklajifaa.Rw (wpList_load_agg wp_stored Kept Fresh)
theorem results_row_tmp {P : Program} {fn : Func} {p u : Tmp} {ty : TypeId} (h : fn.results = #[.cell p ty, .tmp u]) (tmps : Array Value) (w : World) (g : Nat) (t : TypeId) (cs : Array Value) (fr : Nat × Nat) (d : TypeDesc) (v : Value)
    (hp : tmps.getD p undef = .pointer (some ⟨g, 0, none⟩)) (hg : w.heap[g]? = some (.cells cs t fr))
    (hu : P.underlying ty = some d) (hd : (match d with | .struct _ | .array _ _ => true | _ => false) = true) (hi : (P.info? ty).map (·.size) = some cs.size) (hv : tmps.getD u undef = v) :
    (results fn tmps).run P w = .ok (.tuple #[.agg cs, v]) w := by
  rw [results_cell_tmp h, hp, hv]
  simp [asAddr, run_loadVar_row w g t ty cs fr d hg hu hd hi, Result.andThen]
/-- a result and an error -/
def ResPost (r : V × Int) (w : World) (e : Ending) (w' : World) : Prop := ∃ c, e = .returned (.tuple #[.agg c.toArray, .int .i64 r.2]) ∧ RepV w' r.1 c ∧ Below w.heap.size w w'
/-- what checked answers: the value itself, or nothing -/
def CkPost (x : V) (cx : List Value) (w : World) (e : Ending) (w' : World) : Prop := ∃ c, e = .returned (.tuple #[.agg c.toArray, .int .i64 (chkdF x).2]) ∧ Below w.heap.size w w' ∧ ∀ W M, FreV M W x cx → FreV M W (chkdF x).1 c
theorem va5 {W : World} {b : Nat} {k n : Int} {s : ByteArray} {v1 v2 : Value} {t : TypeId} (h : RH W b (vAr k n s v1 v2) t) : W.cell? ⟨b, 0, none⟩ = some (.int .i64 k) ∧ W.cell? ⟨b, 1, none⟩ = some (.int .i64 n) ∧ W.cell? ⟨b, 2, none⟩ = some (.string s) ∧ W.cell? ⟨b, 3, none⟩ = some v1 ∧ W.cell? ⟨b, 4, none⟩ = some v2 :=
  ⟨h.cell 0, h.cell 1, h.cell 2, h.cell 3, h.cell 4⟩
end Fd
end Go.Proofs.Ytkjgifhklajifaa
namespace Go.Proofs.Ytkjgifhklajifaa
open Go.RowKit
namespace Fd
open _root_.Go.Proofs.Ytkjgifhklajifaa.Nt (RH RH.cell RH.box RH.lt RH.new RH.ext RH.fre RH.set RH.other)
open _root_.Go.Proofs.Ytkjgifhklajifaa.Rw (wpList_load_agg wp_stored Kept Fresh)
set_option maxRecDepth 100000 in
set_option maxHeartbeats 16000000 in
theorem checkTwo_at (x y : V) (cx cy : List Value) (w : World) (hx : RepV w x cx) (hy : RepV w y cy) : Calls Try.prog 9 #[.agg cx.toArray, .agg cy.toArray] w fun e w' => e = .returned (.int .i64 (ck2 x y)) ∧ Below w.heap.size w w' := by
  obtain ⟨k1, n1, s1, b1, b2, b3, b4, b5, b6, rfl⟩ := V5 hx
  obtain ⟨k2, n2, s2, e1, e2, e3, e4, e5, e6, rfl⟩ := V5 hy
  have HX := Lib.hid hx
  have HY := Lib.hid hy
  obtain ⟨z, hz⟩ : ∃ z, chkF x = z := ⟨_, rfl⟩
  have HZ := Lib.hid hz
  have HC : Hid (ck2 x y = if z ≠ 0 then z else chkF y) := Lib.hid (by rw [← hz]; rfl)
  clear hx hy hz
  go_enter Try.func9, Try.ntmps9
  go_upto_region 1 with (fail)
  refine wp_vr2 fun W hbW hR1 hR2 => ?_
  obtain ⟨a0, a1, a2, a3, a4⟩ := va5 hR1
  have HR2 := Lib.hid hR2
  have HBW := Lib.hid hbW
  clear hR1 hR2 hbW
  go_wp2_with fail
  refine (check_at x _ W (RepV.ext HBW.out HX.out)).mono ?_
  rintro e w1 ⟨rfl, hb1⟩
  rw [HZ.out]
  have HB1 := Lib.hid (ext_trans HBW.out hb1)
  obtain ⟨d0, d1, d2, d3, d4⟩ := va5 (HR2.out.ext hb1)
  clear a0 a1 a2 a3 a4 hb1
  by_cases h : z = 0
  · have HN := Lib.hid (HC.out.trans (if_neg (by rw [h]; simp)))
    subst h
    clear HC
    go_wp2_with fail
    refine (check_at y _ w1 (RepV.ext HB1.out HY.out)).mono ?_
    rintro e w2 ⟨rfl, hb2⟩
    go_wp2_with fail
    go_ret
    exact ⟨ret_int HN.out.symm, ext_trans HB1.out hb2⟩
  · have HN := Lib.hid (HC.out.trans (if_pos h))
    have hzb : (z != 0) = true := by simpa using h
    clear HC
    go_wp2_with fail
    go_ret
    exact ⟨ret_int HN.out.symm, HB1.out⟩
set_option maxRecDepth 100000 in
set_option maxHeartbeats 16000000 in
theorem checked_at (x : V) (cx : List Value) (w : World) (hx : RepV w x cx) : Calls Try.prog 10 #[.agg cx.toArray] w (CkPost x cx w) := by
  obtain ⟨k1, n1, s1, b1, b2, b3, b4, b5, b6, rfl⟩ := V5 hx
  have HX := Lib.hid hx
  obtain ⟨z, hz⟩ : ∃ z, chkF x = z := ⟨_, rfl⟩
  have HZ := Lib.hid hz
  have HC : Hid (chkdF x = if z ≠ 0 then (V0, z) else (x, 0)) := Lib.hid (by rw [← hz]; rfl)
  clear hx hz
  go_enter Try.func10, Try.ntmps10
  go_upto_region 1 with (fail)
  refine wp_vr2 fun W hbW hR1 hR2 => ?_
  obtain ⟨a0, a1, a2, a3, a4⟩ := va5 hR1
  have HR1 := Lib.hid hR1
  have HR2 := Lib.hid hR2
  have HBW := Lib.hid hbW
  clear hR1 hR2 hbW
  go_wp2_with fail
  refine (check_at x _ W (RepV.ext HBW.out HX.out)).mono ?_
  rintro e w1 ⟨rfl, hb1⟩
  rw [HZ.out]
  have HB1 := Lib.hid (ext_trans HBW.out hb1)
  have HR3 := Lib.hid (HR2.out.ext hb1)
  have HR4 := Lib.hid (HR1.out.ext hb1)
  clear a0 a1 a2 a3 a4 hb1
  obtain ⟨a0, a1, a2, a3, a4⟩ := va5 HR4.out
  by_cases h : z = 0
  · have HN := Lib.hid (HC.out.trans (if_neg (by rw [h]; simp)))
    subst h
    clear HC
    go_wp2_with (refine wpList_store_row rfl _ _ _ rfl (w.heap.size + 1) (vAr k1 n1 s1 (.slice b1 b2 b3) (.slice b4 b5 b6)) rfl rfl _ _ (HR3.out) (v_inf5 _ _ _ _ _) rfl (v_all5 _ _ _ _ _ _ _ _ _) ?_)
    (try simp only [Exit.inBlock, Exit.then])
    refine bodyPost_ret (v := .tuple #[.agg (vAr k1 n1 s1 (.slice b1 b2 b3) (.slice b4 b5 b6)), .int .i64 0]) (results_row_tmp rfl _ _ _ _ _ _ _ _ rfl (HR3.out.row _) Try.underlying25 rfl (v_inf5 _ _ _ _ _) rfl) rfl ?_
    refine ⟨_, by rw [HN.out], below_setRow HB1.out (by omega) _, fun W9 M h9 => ?_⟩
    rw [HN.out]
    exact h9
  · have HN := Lib.hid (HC.out.trans (if_pos h))
    have hzb : (z != 0) = true := by simpa using h
    clear HC
    go_wp2_with (refine wpList_store_row rfl _ _ _ rfl (w.heap.size + 1) (vAr 0 0 eB (.slice none 0 0) (.slice none 0 0)) rfl rfl _ _ (HR3.out) (v_inf5 _ _ _ _ _) rfl (v_all5 _ _ _ _ _ _ _ _ _) ?_)
    (try simp only [Exit.inBlock, Exit.then])
    refine bodyPost_ret (v := .tuple #[.agg (vAr 0 0 eB (.slice none 0 0) (.slice none 0 0)), .int .i64 z]) (results_row_tmp rfl _ _ _ _ _ _ _ _ rfl (HR3.out.row _) Try.underlying25 rfl (v_inf5 _ _ _ _ _) rfl) rfl ?_
    refine ⟨[.int .i64 0, .int .i64 0, .string eB, .slice none 0 0, .slice none 0 0], by rw [HN.out], below_setRow HB1.out (by omega) _, fun W9 M h9 => ?_⟩
    rw [HN.out]
    exact fun _ _ => rep_zero _
set_option maxRecDepth 100000 in
set_option maxHeartbeats 16000000 in
theorem merge_at (x y : V) (cx cy : List Value) (w : World) (hx : RepV w x cx) (hy : RepV w y cy) : Calls Try.prog 4 #[.agg cx.toArray, .agg cy.toArray] w (ResPost (MergeF x y) w) := by
  obtain ⟨k1, n1, s1, b1, b2, b3, b4, b5, b6, rfl⟩ := V5 hx
  obtain ⟨k2, n2, s2, e1, e2, e3, e4, e5, e6, rfl⟩ := V5 hy
  have HX := Lib.hid hx
  have HY := Lib.hid hy
  obtain ⟨z, hz⟩ : ∃ z, ck2 x y = z := ⟨_, rfl⟩
  have HZ := Lib.hid hz
  have HC : Hid (MergeF x y = if z ≠ 0 then (V0, z) else chkdF (mergeV x y)) := Lib.hid (by rw [← hz]; rfl)
  clear hx hy hz
  go_enter Try.func4, Try.ntmps4
  go_upto_region 1 with (fail)
  refine wp_vr3 fun W hbW hR1 hR2 hR3 => ?_
  obtain ⟨a0, a1, a2, a3, a4⟩ := va5 hR1
  obtain ⟨d0, d1, d2, d3, d4⟩ := va5 hR2
  have HR1 := Lib.hid hR1
  have HR2 := Lib.hid hR2
  have HR3 := Lib.hid hR3
  have HBW := Lib.hid hbW
  clear hR1 hR2 hR3 hbW
  go_wp2_with fail
  refine (checkTwo_at x y _ _ W (RepV.ext HBW.out HX.out) (RepV.ext HBW.out HY.out)).mono ?_
  rintro e w1 ⟨rfl, hb1⟩
  rw [HZ.out]
  have HB1 := Lib.hid (ext_trans HBW.out hb1)
  have HQ1 := Lib.hid (HR1.out.ext hb1)
  have HQ2 := Lib.hid (HR2.out.ext hb1)
  have HQ3 := Lib.hid (HR3.out.ext hb1)
  clear a0 a1 a2 a3 a4 d0 d1 d2 d3 d4 hb1 HR1 HR2 HR3
  by_cases h : z = 0
  · have HN := Lib.hid (HC.out.trans (if_neg (by rw [h]; simp)))
    have HCK : Hid (chkV x = 0 ∧ chkV y = 0) := Lib.hid (by
      have := ck2_ok (HZ.out.trans h)
      exact ⟨chkF_chkV this.1, chkF_chkV this.2⟩)
    subst h
    clear HC
    obtain ⟨d0, d1, d2, d3, d4⟩ := va5 HQ2.out
    obtain ⟨a0, a1, a2, a3, a4⟩ := va5 HQ1.out
    go_wp2_with fail
    refine (mgV y x _ _ w1 (RepV.ext HB1.out HX.out) (RepV.ext HB1.out HY.out) HCK.out.1 HCK.out.2).mono ?_
    rintro e w2 ⟨c, rfl, hf, hb2⟩
    obtain ⟨k5, n5, s5, a5, m5, r5, a6, m6, r6, rfl⟩ := V5 hf.now
    have HB2 := Lib.hid (ext_trans HB1.out hb2)
    have HF2 := Lib.hid hf
    have HLT : Hid (w.heap.size + 2 < w1.heap.size) := Lib.hid HQ3.out.lt
    have HP3 := Lib.hid (HQ3.out.ext hb2)
    clear a0 a1 a2 a3 a4 d0 d1 d2 d3 d4 hf hb2 HQ1 HQ2 HQ3
    go_wp2_with fail
    refine (checked_at _ _ w2 HF2.out.now).mono ?_
    rintro e w3 ⟨c, rfl, hb3, hfr⟩
    generalize chkdF _ = rr at *
    have hfr2 := hfr _ _ HF2.out
    obtain ⟨k7, n7, s7, a7, m7, r7, a8, m8, r8, rfl⟩ := V5 hfr2.now
    have HFR : Hid (∀ A, RepV (w3.setRow (w.heap.size + 2) A) rr.1 _) := Lib.hid (fun A => hfr2 _ (fun q h1 h2 => (setRow_other _ _ _ _ (by have := HLT.out; omega)).trans (Kept.below hb3 q h1 h2)))
    have HB3 := Lib.hid (ext_trans HB2.out hb3)
    have HP4 := Lib.hid (HP3.out.ext hb3)
    clear hb3 HP3 hfr hfr2
    go_wp2_with (refine wpList_store_row rfl _ _ _ rfl (w.heap.size + 2) (vAr k7 n7 s7 (.slice a7 m7 r7) (.slice a8 m8 r8)) rfl rfl _ _ (HP4.out) (v_inf5 _ _ _ _ _) rfl (v_all5 _ _ _ _ _ _ _ _ _) ?_)
    (try simp only [Exit.inBlock, Exit.then])
    refine bodyPost_ret (v := .tuple #[.agg (vAr k7 n7 s7 (.slice a7 m7 r7) (.slice a8 m8 r8)), .int .i64 rr.2]) (results_row_tmp rfl _ _ _ _ _ _ _ _ rfl (HP4.out.row _) Try.underlying25 rfl (v_inf5 _ _ _ _ _) rfl) rfl ?_
    show ResPost (MergeF x y) w _ _
    rw [HN.out]
    exact ⟨_, rfl, HFR.out _, below_setRow HB3.out (by omega) _⟩
  · have HN := Lib.hid (HC.out.trans (if_pos h))
    have hzb : (z != 0) = true := by simpa using h
    clear HC
    go_wp2_with (refine wpList_store_row rfl _ _ _ rfl (w.heap.size + 2) (vAr 0 0 eB (.slice none 0 0) (.slice none 0 0)) rfl rfl _ _ (HQ3.out) (v_inf5 _ _ _ _ _) rfl (v_all5 _ _ _ _ _ _ _ _ _) ?_)
    (try simp only [Exit.inBlock, Exit.then])
    refine bodyPost_ret (v := .tuple #[.agg (vAr 0 0 eB (.slice none 0 0) (.slice none 0 0)), .int .i64 z]) (results_row_tmp rfl _ _ _ _ _ _ _ _ rfl (HQ3.out.row _) Try.underlying25 rfl (v_inf5 _ _ _ _ _) rfl) rfl ?_
    show ResPost (MergeF x y) w _ _
    rw [HN.out]
    exact ⟨_, rfl, rep_zero _, below_setRow HB1.out (by omega) _⟩
set_option maxRecDepth 100000 in
set_option maxHeartbeats 16000000 in
theorem patch_at (x y : V) (cx cy : List Value) (w : World) (hx : RepV w x cx) (hy : RepV w y cy) : Calls Try.prog 6 #[.agg cx.toArray, .agg cy.toArray] w (ResPost (PatchF x y) w) := by
  obtain ⟨k1, n1, s1, b1, b2, b3, b4, b5, b6, rfl⟩ := V5 hx
  obtain ⟨k2, n2, s2, e1, e2, e3, e4, e5, e6, rfl⟩ := V5 hy
  have HX := Lib.hid hx
  have HY := Lib.hid hy
  obtain ⟨z, hz⟩ : ∃ z, ck2 x y = z := ⟨_, rfl⟩
  have HZ := Lib.hid hz
  have HC : Hid (PatchF x y = if z ≠ 0 then (V0, z) else if noneV y = true then (V0, 3) else chkdF (patchV x y)) := Lib.hid (by rw [← hz]; rfl)
  clear hx hy hz
  go_enter Try.func6, Try.ntmps6
  go_upto_region 1 with (fail)
  refine wp_vr3 fun W hbW hR1 hR2 hR3 => ?_
  obtain ⟨a0, a1, a2, a3, a4⟩ := va5 hR1
  obtain ⟨d0, d1, d2, d3, d4⟩ := va5 hR2
  have HR1 := Lib.hid hR1
  have HR2 := Lib.hid hR2
  have HR3 := Lib.hid hR3
  have HBW := Lib.hid hbW
  clear hR1 hR2 hR3 hbW
  go_wp2_with fail
  refine (checkTwo_at x y _ _ W (RepV.ext HBW.out HX.out) (RepV.ext HBW.out HY.out)).mono ?_
  rintro e w1 ⟨rfl, hb1⟩
  rw [HZ.out]
  have HB1 := Lib.hid (ext_trans HBW.out hb1)
  have HQ1 := Lib.hid (HR1.out.ext hb1)
  have HQ2 := Lib.hid (HR2.out.ext hb1)
  have HQ3 := Lib.hid (HR3.out.ext hb1)
  clear a0 a1 a2 a3 a4 d0 d1 d2 d3 d4 hb1 HR1 HR2 HR3
  by_cases h : z = 0
  · have HN := Lib.hid (HC.out.trans (if_neg (by rw [h]; simp)))
    have HCK : Hid (chkV x = 0 ∧ chkV y = 0) := Lib.hid (by
      have := ck2_ok (HZ.out.trans h)
      exact ⟨chkF_chkV this.1, chkF_chkV this.2⟩)
    subst h
    clear HC
    obtain ⟨d0, d1, d2, d3, d4⟩ := va5 HQ2.out
    go_wp2_with fail
    refine (hnV y _ w1 (RepV.ext HB1.out HY.out)).mono ?_
    rintro e w9 ⟨rfl, hb9⟩
    replace HB1 := Lib.hid (ext_trans HB1.out hb9)
    replace HQ1 := Lib.hid (HQ1.out.ext hb9)
    replace HQ2 := Lib.hid (HQ2.out.ext hb9)
    replace HQ3 := Lib.hid (HQ3.out.ext hb9)
    clear hb9 d0 d1 d2 d3 d4
    obtain ⟨nb, hnb⟩ : ∃ b, noneV y = b := ⟨_, rfl⟩
    rw [hnb]
    rw [hnb] at HN
    clear hnb
    generalize w9 = w1 at *
    cases nb
    · replace HN := Lib.hid (HN.out.trans (if_neg (by simp)))
      obtain ⟨d0, d1, d2, d3, d4⟩ := va5 HQ2.out
      obtain ⟨a0, a1, a2, a3, a4⟩ := va5 HQ1.out
      go_wp2_with fail
      refine (ptV x y _ _ w1 (RepV.ext HB1.out HX.out) (RepV.ext HB1.out HY.out) HCK.out.1 HCK.out.2).mono ?_
      rintro e w2 ⟨c, rfl, hf, hb2⟩
      obtain ⟨k5, n5, s5, a5, m5, r5, a6, m6, r6, rfl⟩ := V5 hf.now
      have HB2 := Lib.hid (ext_trans HB1.out hb2)
      have HF2 := Lib.hid hf
      have HLT : Hid (w.heap.size + 2 < w1.heap.size) := Lib.hid HQ3.out.lt
      have HP3 := Lib.hid (HQ3.out.ext hb2)
      clear a0 a1 a2 a3 a4 d0 d1 d2 d3 d4 hf hb2 HQ1 HQ2 HQ3
      go_wp2_with fail
      refine (checked_at _ _ w2 HF2.out.now).mono ?_
      rintro e w3 ⟨c, rfl, hb3, hfr⟩
      generalize chkdF _ = rr at *
      have hfr2 := hfr _ _ HF2.out
      obtain ⟨k7, n7, s7, a7, m7, r7, a8, m8, r8, rfl⟩ := V5 hfr2.now
      have HFR : Hid (∀ A, RepV (w3.setRow (w.heap.size + 2) A) rr.1 _) := Lib.hid (fun A => hfr2 _ (fun q h1 h2 => (setRow_other _ _ _ _ (by have := HLT.out; omega)).trans (Kept.below hb3 q h1 h2)))
      have HB3 := Lib.hid (ext_trans HB2.out hb3)
      have HP4 := Lib.hid (HP3.out.ext hb3)
      clear hb3 HP3 hfr hfr2
      go_wp2_with (refine wpList_store_row rfl _ _ _ rfl (w.heap.size + 2) (vAr k7 n7 s7 (.slice a7 m7 r7) (.slice a8 m8 r8)) rfl rfl _ _ (HP4.out) (v_inf5 _ _ _ _ _) rfl (v_all5 _ _ _ _ _ _ _ _ _) ?_)
      (try simp only [Exit.inBlock, Exit.then])
      refine bodyPost_ret (v := .tuple #[.agg (vAr k7 n7 s7 (.slice a7 m7 r7) (.slice a8 m8 r8)), .int .i64 rr.2]) (results_row_tmp rfl _ _ _ _ _ _ _ _ rfl (HP4.out.row _) Try.underlying25 rfl (v_inf5 _ _ _ _ _) rfl) rfl ?_
      show ResPost (PatchF x y) w _ _
      rw [HN.out]
      exact ⟨_, rfl, HFR.out _, below_setRow HB3.out (by omega) _⟩
    · replace HN := Lib.hid (HN.out.trans (if_pos rfl))
      go_wp2_with (refine wpList_store_row rfl _ _ _ rfl (w.heap.size + 2) (vAr 0 0 eB (.slice none 0 0) (.slice none 0 0)) rfl rfl _ _ (HQ3.out) (v_inf5 _ _ _ _ _) rfl (v_all5 _ _ _ _ _ _ _ _ _) ?_)
      (try simp only [Exit.inBlock, Exit.then])
      refine bodyPost_ret (v := .tuple #[.agg (vAr 0 0 eB (.slice none 0 0) (.slice none 0 0)), .int .i64 3]) (results_row_tmp rfl _ _ _ _ _ _ _ _ rfl (HQ3.out.row _) Try.underlying25 rfl (v_inf5 _ _ _ _ _) rfl) rfl ?_
      show ResPost (PatchF x y) w _ _
      rw [HN.out]
      exact ⟨_, rfl, rep_zero _, below_setRow HB1.out (by omega) _⟩
  · have HN := Lib.hid (HC.out.trans (if_pos h))
    have hzb : (z != 0) = true := by simpa using h
    clear HC
    go_wp2_with (refine wpList_store_row rfl _ _ _ rfl (w.heap.size + 2) (vAr 0 0 eB (.slice none 0 0) (.slice none 0 0)) rfl rfl _ _ (HQ3.out) (v_inf5 _ _ _ _ _) rfl (v_all5 _ _ _ _ _ _ _ _ _) ?_)
    (try simp only [Exit.inBlock, Exit.then])
    refine bodyPost_ret (v := .tuple #[.agg (vAr 0 0 eB (.slice none 0 0) (.slice none 0 0)), .int .i64 z]) (results_row_tmp rfl _ _ _ _ _ _ _ _ rfl (HQ3.out.row _) Try.underlying25 rfl (v_inf5 _ _ _ _ _) rfl) rfl ?_
    show ResPost (PatchF x y) w _ _
    rw [HN.out]
    exact ⟨_, rfl, rep_zero _, below_setRow HB1.out (by omega) _⟩
end Fd
end Go.Proofs.Ytkjgifhklajifaa
namespace Go.Proofs.Ytkjgifhklajifaa
open Go.RowKit
namespace Fd
open _root_.Go.Proofs.Ytkjgifhklajifaa.Nt (RH RH.cell RH.box RH.lt RH.new RH.ext RH.fre RH.set RH.other)
open _root_.Go.Proofs.Ytkjgifhklajifaa.Rw (All2 All2.get All2.length All2.append All2.mono fl_len wpList_load_agg wp_stored)
theorem lenL_le : ∀ l : List V, l.length ≤ pNL l
  | [] => Nat.zero_le _
  | x :: l => by
    have h1 := pN_pos x
    have h2 := lenL_le l
    rw [List.length_cons]
    simp only [pNL]
    omega
def inB (v lo hi : Int) : Bool := decide (lo ≤ v) && decide (v ≤ hi)
set_option maxRecDepth 100000 in
set_option maxHeartbeats 8000000 in
theorem within_at (v lo hi : Int) (w : World) : Calls Try.prog 48 #[.int .i64 v, .int .i64 lo, .int .i64 hi] w fun e w' => e = .returned (.bool (inB v lo hi)) ∧ w = w' := by
  have H1 : Hid (v < lo → inB v lo hi = false) := Lib.hid (fun h => by unfold inB; rw [decide_eq_false (by omega)]; rfl)
  have H2 : Hid (lo ≤ v → v ≤ hi → inB v lo hi = true) := Lib.hid (fun h h' => by unfold inB; rw [decide_eq_true h, decide_eq_true h']; rfl)
  have H3 : Hid (hi < v → inB v lo hi = false) := Lib.hid (fun h => by unfold inB; rw [decide_eq_false (show ¬ v ≤ hi by omega), Bool.and_false])
  generalize inB v lo hi = r at *
  go_enter Try.func48, Try.ntmps48
  by_cases h : lo ≤ v
  · by_cases h' : v ≤ hi
    · have HN := Lib.hid (H2.out h h')
      clear H1 H2 H3
      go_wp2
      go_ret
      exact ⟨ret_bool (by rw [HN.out]; try simp), rfl⟩
    · have HN := Lib.hid (H3.out (by omega))
      clear H1 H2 H3
      go_wp2
      go_ret
      exact ⟨ret_bool (by rw [HN.out]; try simp [h']), rfl⟩
  · have HN := Lib.hid (H1.out (by omega))
    clear H1 H2 H3
    go_wp2
    go_ret
    exact ⟨ret_bool (by rw [HN.out]; try simp), rfl⟩
set_option maxRecDepth 100000 in
set_option maxHeartbeats 8000000 in
theorem printable_at (s : ByteArray) (hs : s.size ≤ maxLen) (w : World) : Calls Try.prog 49 #[.string s] w fun e w' => e = .returned (.bool (seenB s)) ∧ w = w' := by
  unfold maxLen at hs
  go_enter Try.func49, Try.ntmps49
  go_wp2
  go_loop [6] (fun i => ∃ k : Nat, k ≤ s.size ∧ i = .int .i64 k ∧ Hid ((s.data.toList.take k).all seenC = true)) (fun i => s.size - (intOf i).toNat)
  case atStart => exact ⟨0, by omega, rfl, rfl⟩
  case round =>
    obtain ⟨k, hk, rfl, HA⟩ := hrel
    by_cases hlt : k < s.size
    · by_cases h1 : (s[k].toNat : Int) < 32
      · have HW : Hid (seenB s = false) := Lib.hid (all_not seenC _ _ hlt (by unfold seenC; simp; omega))
        go_wp2
        go_ret
        exact ⟨ret_bool HW.out.symm, rfl⟩
      · by_cases h2 : 126 < (s[k].toNat : Int)
        · have HW : Hid (seenB s = false) := Lib.hid (all_not seenC _ _ hlt (by unfold seenC; simp; omega))
          go_wp2
          go_ret
          exact ⟨ret_bool HW.out.symm, rfl⟩
        · have HW : Hid (seenC s[k] = true) := by exact (by unfold seenC; simp; omega : seenC s[k] = true)
          go_wp2
          go_round
          case rel => exact ⟨k + 1, by omega, by go_num, all_snoc _ _ _ hlt HA.out HW.out⟩
          case measure => simp [intOf]; omega
    · have HW : Hid (seenB s = true) := Lib.hid (all_end seenC _ _ hlt HA.out)
      go_wp2
      go_ret
      exact ⟨ret_bool HW.out.symm, rfl⟩
/-- a row of values of the call's own: what lies behind them lies ahead of the call -/
structure OwnV (w0 w : World) (l : List V) (v : Value) (E : List (List Value)) : Prop where
  own : w.ownsRow w0.heap.size 25 5 v l.length E.flatten
  rep : All2 (RepV w0) l E
theorem OwnV.ext {w0 w w' : World} {l : List V} {v : Value} {E : List (List Value)} (h : OwnV w0 w l v E) (hb : Below w.heap.size w w') : OwnV w0 w' l v E := ⟨own_keep h.own (Rw.Kept.below hb), h.rep⟩
theorem OwnV.five {w0 w : World} {l : List V} {v : Value} {E : List (List Value)} (h : OwnV w0 w l v E) : ∀ c ∈ E, c.length = 5 := all_len (fun _ _ => RepV.len) h.rep
theorem OwnV.sl {w0 w : World} {l : List V} {v : Value} {E : List (List Value)} (h : OwnV w0 w l v E) : Sl w v l.length E.flatten := Sl.ofOwn h.own
theorem wpList_snocV {ops : Array Oper} {rest : List Oper} {o : Oper} {a : Act} {Q : Exit → Act → World → Prop} {w w0 : World} (hgd : o.guard = none) (s x : Operand)
    (ho : o.op = .call { callee := .builtin .append, args := #[s, x], argTypes := #[22, 22] })
    {l : List V} {v : Value} {E : List (List Value)} {m : V} {c : List Value} {B : Nat} {tB : TypeId}
    (hs : a.eval s = v) (hx : a.eval x = .slice (some ⟨B, 0, none⟩) 1 1) (hO : OwnV w0 w l v E) (hc : RepV w0 m c) (hb : w0.heap.size ≤ w.heap.size)
    (hB : RH w B c.toArray tB) (hn : l.length ≤ 100000000)
    (h : ∀ a7 c7 LN w7, LN = (l ++ [m]).length → w.grownBy w7 v.ownBlock → OwnV w0 w7 (l ++ [m]) (.slice a7 LN c7) (E ++ [c]) → wpList Try.prog ops Q rest (a.put o.dst (.slice a7 LN c7)) w7) :
    wpList Try.prog ops Q (o :: rest) a w := by
  obtain ⟨J, hJ⟩ : ∃ i, Try.prog.info? 25 = some i := by
    cases hq : Try.prog.info? 25 with
    | none => have := vI; rw [hq] at this; cases this
    | some i => exact ⟨i, rfl⟩
  have hci := vI
  rw [hJ] at hci
  simp only [Option.map_some, Option.some.injEq, Prod.mk.injEq] at hci
  obtain ⟨hz1, hz2, hz3⟩ := hci
  have hl : c.length = 5 := RepV.len hc
  have hcB : ∀ (j : Nat) (u : Value), c[j]? = some u → w.cell? ((⟨B, 0, none⟩ : Addr).add j) = some u := fun j u hu => by
    rw [add_spot, Nat.zero_add, hB.cell]; exact (List.getElem?_toArray).trans hu
  refine wpList_append_own_at _ hgd s x _ ho w0.heap.size _ J _ 5 80 Try.underlying22 hJ hz1 hz2 hz3 rfl (by decide) v l.length E.flatten hs hO.own ⟨B, 0, none⟩ 1 1 c hx (by rw [hl]) hcB (RepV.one hc) (by unfold maxLen; omega) (by omega) hb ?_
  intro v' w' g1 g2 _ g3
  have hO7 : OwnV w0 w' (l ++ [m]) v' (E ++ [c]) := ⟨by rw [List.length_append, List.flatten_append]; simpa using g1, All2.append hO.rep ⟨hc, trivial⟩⟩
  obtain ⟨a7, c7, e7⟩ : ∃ a c, v' = .slice a (l ++ [m]).length c := by
    obtain ⟨a, c, e, _⟩ := hO7.sl
    exact ⟨a, c, e⟩
  subst e7
  exact h a7 c7 _ w' rfl g2 hO7
def InnPost (x : V) (w : World) (e : Ending) (w' : World) : Prop := ∃ (a : Option Addr) (c : Nat) (E : List (List Value)), e = .returned (.slice a (inner x).length c) ∧ OwnV w w' (inner x) (.slice a (inner x).length c) E ∧ Below w.heap.size w w'
set_option maxRecDepth 100000 in
set_option maxHeartbeats 8000000 in
theorem inner_at (x : V) (cs : List Value) (w : World) (hx : RepV w x cs) (hn : pN x ≤ 10000000) : Calls Try.prog 36 #[.agg cs.toArray] w (InnPost x w) := by
  have hp := pN_inner x
  have hlen : (inner x).length ≤ pNL (inner x) := lenL_le _
  obtain ⟨k, n, s, is, fs⟩ := x
  obtain ⟨ai, ci, af, cf, EI, EF, rfl, i1, i2, i3, hV⟩ := RepV.open hx
  have HV := Lib.hid hV
  have hL : is.length + fs.length ≤ 10000000 := by
    have : (inner (.mk k n s is fs)).length = is.length + fs.length := by simp [inner, items, fields]
    omega
  have HIN : Hid (inner (.mk k n s is fs) = is ++ fs.map vlF) := Lib.hid rfl
  have hl1 : is.length ≤ 10000000 := by omega
  have hl2 : fs.length ≤ 10000000 := by omega
  clear hx hV i1 i2 i3 hp hlen hn
  show Calls Try.prog 36 #[.agg #[.int .i64 k, .int .i64 n, .string s, .slice ai is.length ci, .slice af fs.length cf]] w (InnPost (.mk k n s is fs) w)
  go_enter Try.func36, Try.ntmps36
  go_upto_region 1 with (fail)
  refine wp_box1 fun W hszW hbW hA => ?_
  have a3 : W.cell? ⟨w.heap.size, 3, none⟩ = some (.slice ai is.length ci) := hA.2 3
  have HA := Lib.hid hA
  have HBW := Lib.hid hbW
  have HCL := Lib.hid (cloneV_at is.length EI.flatten ai ci W (HV.out.si.ext hbW) (by rw [fl_len (all_len (fun _ _ => RepV.len) HV.out.ri), ← All2.length HV.out.ri]) (all_one (fun _ _ => RepV.one) HV.out.ri) (by omega))
  clear hszW hA hbW
  go_wp2_with fail
  refine HCL.out.mono ?_
  rintro e w1 ⟨a', c', rfl, ho, hb1⟩
  have HW1 := Lib.hid (ext_trans HBW.out hb1)
  have HO1 : Hid (OwnV w w1 (is ++ []) (.slice a' (is ++ ([] : List V)).length c') EI) := Lib.hid (by
    rw [List.append_nil]
    exact ⟨Rw.own_mono ho HBW.out.size, HV.out.ri⟩)
  have a4 : w1.cell? ⟨w.heap.size, 4, none⟩ = some (.slice af fs.length cf) := (HA.out.ext hb1).2 4
  clear a3 HCL ho hb1 HA
  obtain ⟨n1, hn1⟩ : ∃ n1, is.length = n1 := ⟨_, rfl⟩
  have HN1 := Lib.hid hn1
  rw [hn1]
  clear hn1
  go_wp2_with fail
  go_loopw [3, 12] (fun v i wr => ∃ (q : Nat) (E : List (List Value)) (a : Option Addr) (c : Nat) (LN : Nat), q ≤ fs.length ∧ i = .int .i64 (q : Int) ∧ v = .slice a LN c ∧ Hid (LN = (is ++ (fs.take q).map vlF).length) ∧ Hid (OwnV w wr (is ++ (fs.take q).map vlF) (.slice a LN c) E) ∧ Hid (Below w.heap.size w wr)) (fun _ i _ => fs.length - (intOf i).toNat)
  case atStart => exact ⟨0, EI, a', c', n1, Nat.zero_le _, rfl, rfl, Lib.hid (by rw [← HN1.out]; simp), Lib.hid (by have := HO1.out; rw [← HN1.out]; simpa using this), HW1⟩
  case round =>
    clear HO1 HW1 HN1
    obtain ⟨q, E, a, c, LN, hq, rfl, rfl, HLN, HO, HW⟩ := hrel
    generalize hXX : wr = X at *
    clear hXX a4
    by_cases hlt : q < fs.length
    · obtain ⟨f, hfu⟩ : ∃ f, fs[q]? = some f := ⟨_, List.getElem?_eq_getElem hlt⟩
      obtain ⟨cy, hcy, hry0⟩ := All2.get HV.out.rf hfu
      have hry := RepF.ext HW.out hry0
      obtain ⟨p, o, e0, hp0, hcell⟩ := sl_elem (HV.out.sf.ext HW.out) (all_len (fun _ _ => RepF.len) HV.out.rf) (by omega) hcy
      subst e0
      obtain ⟨nm, y⟩ := f
      have hry2 := hry0
      simp only [RepF] at hry2
      obtain ⟨cv5, rfl, hnm, hrv⟩ := hry2
      obtain ⟨ky, ny, sy, a1, m1, r1, a2, m2, r2, rfl⟩ := V5 hrv
      have HFU := Lib.hid hfu
      have HRV := Lib.hid hrv
      have HINF := Lib.hid (f_info hry)
      have HONE := Lib.hid (all_arr (RepF.one hry))
      have hqi : (q : Int) < (fs.length : Int) := by omega
      clear hfu hcy hry0 hry hnm hrv hp0
      go_upto_region 5 with (first | (refine wpList_load_agg rfl _ _ rfl p (o + q * 6) (by rfl) [.string nm, .int .i64 ky, .int .i64 ny, .string sy, .slice a1 m1 r1, .slice a2 m2 r2] (fun j v hj => by rw [Nat.add_assoc]; exact hcell j v hj) _ Try.underlying38 rfl HINF.out ?_) | (refine wpList_store_row rfl _ _ _ rfl X.heap.size #[.string nm, .int .i64 ky, .int .i64 ny, .string sy, .slice a1 m1 r1, .slice a2 m2 r2] rfl rfl _ _ (RH.new _ _ _) HINF.out rfl HONE.out ?_))
      refine wp_stored fun Y hbY hRf => ?_
      have HOY := Lib.hid (HO.out.ext hbY)
      have HWY := Lib.hid (ext_trans HW.out hbY)
      have f1 : Y.cell? ⟨X.heap.size, 1, none⟩ = some (.int .i64 ky) := hRf.cell 1
      have f2 : Y.cell? ⟨X.heap.size, 2, none⟩ = some (.int .i64 ny) := hRf.cell 2
      have f3 : Y.cell? ⟨X.heap.size, 3, none⟩ = some (.string sy) := hRf.cell 3
      have f4 : Y.cell? ⟨X.heap.size, 4, none⟩ = some (.slice a1 m1 r1) := hRf.cell 4
      have f5 : Y.cell? ⟨X.heap.size, 5, none⟩ = some (.slice a2 m2 r2) := hRf.cell 5
      generalize X.heap.size = fb at *
      have HLL : Hid ((is ++ (fs.take q).map vlF).length ≤ 100000000) := Lib.hid (by rw [List.length_append, List.length_map, List.length_take]; omega)
      have HTK : Hid (is ++ (fs.take (q + 1)).map vlF = (is ++ (fs.take q).map vlF) ++ [y]) := Lib.hid (by rw [take_one HFU.out, List.map_append, ← List.append_assoc]; rfl)
      clear hbY hRf hcell HO HW HINF HONE
      go_wp2_with (at_builtin; refine wpList_snocV (w0 := w) (l := is ++ (fs.take q).map vlF) rfl _ _ rfl rfl rfl (HOY.out.ext (ext_alloc _ _)) HRV.out (Nat.le_trans HWY.out.size (ext_alloc _ _).size) (RH.new _ _ _) HLL.out ?_; intro a7 c7 LN7 w7 hLN7 hg7 hO7; have HLN7 := Lib.hid hLN7; have HO7 := Lib.hid hO7; have HG7 := Lib.hid hg7; clear hLN7 hO7 hg7)
      have HW7 : Hid (Below w.heap.size w w7) := Lib.hid ((ext_trans HWY.out (ext_alloc _ _)).grown HG7.out (Nat.le_trans HWY.out.size (ext_alloc _ _).size) (fun q9 h9 => (Rw.own_base HOY.out.own q9 h9).1))
      go_roundw
      case rel => exact ⟨q + 1, _, a7, c7, LN7, by omega, by go_num, rfl, Lib.hid (by rw [HTK.out]; exact HLN7.out), Lib.hid (by rw [HTK.out]; exact HO7.out), HW7⟩
      case measure => simp [intOf]; omega
    · obtain rfl : q = fs.length := by omega
      have HF : Hid (LN = (inner (.mk k n s is fs)).length) := Lib.hid (by rw [HLN.out, HIN.out, List.take_length])
      have HOF : Hid (OwnV w X (inner (.mk k n s is fs)) (.slice a LN c) E) := Lib.hid (by have := HO.out; rw [List.take_length] at this; rw [HIN.out]; exact this)
      clear HO HLN
      go_wp2_with fail
      go_ret
      have := HF.out
      subst this
      exact ⟨a, c, E, rfl, HOF.out, HW.out⟩
end Fd
end Go.Proofs.Ytkjgifhklajifaa
