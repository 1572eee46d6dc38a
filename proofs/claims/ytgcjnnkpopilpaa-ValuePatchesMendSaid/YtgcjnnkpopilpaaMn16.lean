/- Check, checkTwo and checked of package value. Printed by gen_vck.py. Plain: what Merge and Patch answer, with their errors; a value mended by its patch is the other one. No program stands in it. checkTwo, checked, Merge and Patch of package value. Printed by gen_vmp.py. -/
import Derived.Test.YtgcjnnkpopilpaaMn15
import Derived.Test.YtgcjnnkpopilpaaMn03
import Derived.Test.YtgcjnnkpopilpaaMn04
import Derived.Test.YtgcjnnkpopilpaaMn09
import Derived.Test.YtgcjnnkpopilpaaMn13
import Derived.Test.YtgcjnnkpopilpaaMn14
namespace Go.Proofs.Ytgcjnnkpopilpaa
open Go.RowKit
namespace Fd
open _root_.Go.Proofs.Ytgcjnnkpopilpaa.Nt (RH RH.cell RH.box RH.lt RH.new RH.ext RH.fre RH.set RH.other)
open _root_.Go.Proofs.Ytgcjnnkpopilpaa.Rw (wpList_load_agg)
set_option maxRecDepth 100000 in
set_option maxHeartbeats 8000000 in
theorem check_at (x : V) (cs : List Value) (w : World) (h : RepV w x cs) : Calls Try.prog 20 #[.agg cs.toArray] w fun e w' => e = .returned (.int .i64 (chkF x)) ∧ Below w.heap.size w w' := by
  obtain ⟨k0, n0, s0, ai, m, q, af, m', q', rfl⟩ := V5 h
  have HX := Lib.hid h
  have HCK : Hid (∀ p c : Int, IntKind.i64.wrap (pN x : Int) = p → cW x = c → chkF x = if 1000 < p ∨ 8 < c then 2 else chkV x) := Lib.hid (fun p c h1 h2 => by unfold chkF; rw [h1, h2])
  clear h
  go_enter Try.func20, Try.ntmps20
  go_upto_region 1 with (fail)
  refine wp_box1 fun W hszW hbW hA => ?_
  have a0 : W.cell? ⟨w.heap.size, 0, none⟩ = some (.int .i64 k0) := hA.2 0
  have a1 : W.cell? ⟨w.heap.size, 1, none⟩ = some (.int .i64 n0) := hA.2 1
  have a2 : W.cell? ⟨w.heap.size, 2, none⟩ = some (.string s0) := hA.2 2
  have a3 : W.cell? ⟨w.heap.size, 3, none⟩ = some (.slice ai m q) := hA.2 3
  have a4 : W.cell? ⟨w.heap.size, 4, none⟩ = some (.slice af m' q') := hA.2 4
  have HA0 := Lib.hid hA.1
  clear hszW hA
  go_wp2_with fail
  refine (countV x _ W (RepV.ext hbW HX.out)).mono ?_
  rintro e w1 ⟨rfl, hb1⟩
  obtain ⟨pn, hpn⟩ : ∃ z, IntKind.i64.wrap (pN x : Int) = z := ⟨_, rfl⟩
  obtain ⟨cw, hcw⟩ : ∃ z, cW x = z := ⟨_, rfl⟩
  have HC := Lib.hid (HCK.out pn cw hpn hcw)
  rw [hpn, hcw]
  have hw1 := ext_trans hbW hb1
  replace a0 := cell_later hb1 a0
  replace a1 := cell_later hb1 a1
  replace a2 := cell_later hb1 a2
  replace a3 := cell_later hb1 a3
  replace a4 := cell_later hb1 a4
  clear hpn hcw HCK hbW hb1
  by_cases h1 : 1000 < pn
  · have HN := Lib.hid (HC.out.trans (if_pos (.inl h1)))
    clear HC
    go_wp2_with fail
    go_ret
    exact ⟨ret_int HN.out.symm, hw1⟩
  · by_cases h2 : 8 < cw
    · have HN := Lib.hid (HC.out.trans (if_pos (.inr h2)))
      clear HC
      go_wp2_with fail
      go_ret
      exact ⟨ret_int HN.out.symm, hw1⟩
    · have HN := Lib.hid (HC.out.trans (if_neg (fun h => h.elim h1 h2)))
      clear HC
      go_wp2_with fail
      refine (partV x _ w1 (RepV.ext hw1 HX.out)).mono ?_
      rintro e w2 ⟨rfl, hb2⟩
      go_wp2_with fail
      go_ret
      exact ⟨ret_int HN.out.symm, ext_trans hw1 hb2⟩
end Fd
end Go.Proofs.Ytgcjnnkpopilpaa
namespace Go.Proofs.Ytgcjnnkpopilpaa
namespace Fd
def ck2 (x y : V) : Int := if chkF x ≠ 0 then chkF x else chkF y
/-- a result, checked -/
def chkdF (x : V) : V × Int := if chkF x ≠ 0 then (V0, chkF x) else (x, 0)
def MergeF (x p : V) : V × Int := if ck2 x p ≠ 0 then (V0, ck2 x p) else chkdF (mergeV x p)
def PatchF (x y : V) : V × Int := if ck2 x y ≠ 0 then (V0, ck2 x y) else if noneV y = true then (V0, 3) else chkdF (patchV x y)
theorem chkF_chkV {x : V} (h : chkF x = 0) : chkV x = 0 := by
  unfold chkF at h
  split at h
  · cases h
  · exact h
theorem ck2_ok {x y : V} (h : ck2 x y = 0) : chkF x = 0 ∧ chkF y = 0 := by
  unfold ck2 at h
  split at h
  · next h1 => exact absurd h h1
  · next h1 => exact ⟨Classical.not_not.1 h1, h⟩
theorem chkF_empty : chkF (obj []) = 0 := by decide
/-- the patch of a value to itself -/
theorem patchFs_self : ∀ {fs ts : List F}, (∀ f ∈ fs, lk ts (nmF f) = some (vlF f)) → patchFs fs ts = []
  | [], _, _ => by simp only [patchFs]
  | .mk nm x :: r, ts, h => by
    have h1 := h (.mk nm x) (by simp)
    unfold patchFs
    rw [show lk ts nm = some x from h1]
    simp only [cmpV_self]
    rw [if_neg (by simp)]
    exact patchFs_self (fun f hf => h f (by simp [hf]))
theorem patch_self {y : V} (h : chkV y = 0) : patchV y y = if kind y = 5 then obj [] else y := by
  obtain ⟨k, n, s, is, fs⟩ := y
  by_cases hk : k = 5
  · rw [if_pos (show kind (.mk k n s is fs) = 5 from hk), patchV_obj hk (show kind (.mk k n s is fs) = 5 from hk)]
    have hs := (fields_ok h).1
    have h1 : patchFs fs fs = [] := patchFs_self (fun f hf => mem_lk hs hf)
    have h2 : (fs.filter fun f => (lk fs (nmF f)).isNone) = [] := List.filter_eq_nil_iff.2 (fun f hf => by show ¬ (lk fs (nmF f)).isNone = true; have h9 : lk fs (nmF f) = some (vlF f) := mem_lk hs hf; rw [h9]; simp)
    show obj (putAll [] (patchFs fs fs ++ fs.filter fun f => (lk fs (nmF f)).isNone)) = obj []
    rw [h1, h2]; rfl
  · rw [if_neg (show ¬ kind (.mk k n s is fs) = 5 from hk)]
    simp only [patchV, if_pos (show k ≠ 5 ∨ kind (.mk k n s is fs) ≠ 5 from .inl hk)]
theorem chk_patch_self {y : V} (h : chkF y = 0) : chkF (patchV y y) = 0 := by
  rw [patch_self (chkF_chkV h)]
  split
  · exact chkF_empty
  · exact h
theorem patch_ok {x y : V} (h : (PatchF x y).2 = 0) : chkF x = 0 ∧ chkF y = 0 ∧ noneV y = false ∧ chkF (patchV x y) = 0 ∧ (PatchF x y).1 = patchV x y := by
  unfold PatchF at h ⊢
  by_cases h1 : ck2 x y ≠ 0
  · rw [if_pos h1] at h; exact absurd h h1
  · rw [if_neg h1] at h ⊢
    obtain ⟨a, b⟩ := ck2_ok (Classical.not_not.1 h1)
    by_cases h2 : noneV y = true
    · rw [if_pos h2] at h; cases h
    · rw [if_neg h2] at h ⊢
      unfold chkdF at h ⊢
      by_cases h3 : chkF (patchV x y) ≠ 0
      · rw [if_pos h3] at h; exact absurd h h3
      · rw [if_neg h3] at h ⊢
        exact ⟨a, b, by simpa using h2, Classical.not_not.1 h3, rfl⟩
/-- a value mended by its patch -/
theorem merge_patch {x y p : V} (hx : chkF x = 0) (hy : chkF y = 0) (hn : noneV y = false) (hp : chkF p = 0) (e : p = patchV x y) : MergeF x p = (y, 0) := by
  subst e
  unfold MergeF ck2
  rw [if_neg (by simp [hx, hp]), mend (chkF_chkV hx) (chkF_chkV hy) hn]
  unfold chkdF
  rw [if_neg (by simp [hy])]
theorem patch_self_ok {y : V} (hy : chkF y = 0) (hn : noneV y = false) : PatchF y y = (patchV y y, 0) := by
  unfold PatchF ck2 chkdF
  rw [if_neg (by simp [hy]), if_neg (by simp [hn]), if_neg (by simp [chk_patch_self hy])]
end Fd
end Go.Proofs.Ytgcjnnkpopilpaa
namespace Go.Proofs.Ytgcjnnkpopilpaa
open Go.RowKit
namespace Fd
open _root_.Go.Proofs.Ytgcjnnkpopilpaa.Nt (RH RH.cell RH.box RH.lt RH.new RH.ext RH.fre RH.set RH.other)
open _root_.Go.Proofs.Ytgcjnnkpopilpaa.Rw (wpList_load_agg wp_stored Kept Fresh)
theorem results_row_tmp {P : Program} {fn : Func} {p u : Tmp} {ty : TypeId} (h : fn.results = #[.cell p ty, .tmp u]) (tmps : Array Value) (w : World) (g : Nat) (t : TypeId) (cs : Array Value) (fr : Nat × Nat) (d : TypeDesc) (v : Value)
    (hp : tmps.getD p undef = .pointer (some ⟨g, 0, none⟩)) (hg : w.heap[g]? = some (.cells cs t fr))
    (hu : P.underlying ty = some d) (hd : (match d with | .struct _ | .array _ _ => true | _ => false) = true) (hi : (P.info? ty).map (·.size) = some cs.size) (hv : tmps.getD u undef = v) :
    (results fn tmps).run P w = .ok (.tuple #[.agg cs, v]) w := by
  rw [results_cell_tmp h, hp, hv]
  simp [asAddr, run_loadVar_row w g t ty cs fr d hg hu hd hi, Result.andThen]
/-- a result and an error -/
def ResPost (r : V × Int) (w : World) (e : Ending) (w' : World) : Prop := ∃ c, e = .returned (.tuple #[.agg c.toArray, .int .i64 r.2]) ∧ RepV w' r.1 c ∧ Below w.heap.size w w'
/-- what checked answers: the value itself, or nothing -/
def CkPost (x : V) (cx : List Value) (w : World) (e : Ending) (w' : World) : Prop := ∃ c, e = .returned (.tuple #[.agg c.toArray, .int .i64 (chkdF x).2]) ∧ Below w.heap.size w w' ∧ ∀ W M, FreV M W x cx → FreV M W (chkdF x).1 c
theorem va5 {W : World} {b : Nat} {k n : Int} {s : ByteArray} {v1 v2 : Value} {t : TypeId} (h : RH W b (vAr k n s v1 v2) t) : W.cell? ⟨b, 0, none⟩ = some (.int .i64 k) ∧ W.cell? ⟨b, 1, none⟩ = some (.int .i64 n) ∧ W.cell? ⟨b, 2, none⟩ = some (.string s) ∧ W.cell? ⟨b, 3, none⟩ = some v1 ∧ W.cell? ⟨b, 4, none⟩ = some v2 :=
  ⟨h.cell 0, h.cell 1, h.cell 2, h.cell 3, h.cell 4⟩
set_option maxRecDepth 100000 in
set_option maxHeartbeats 16000000 in
theorem checkTwo_at (x y : V) (cx cy : List Value) (w : World) (hx : RepV w x cx) (hy : RepV w y cy) : Calls Try.prog 10 #[.agg cx.toArray, .agg cy.toArray] w fun e w' => e = .returned (.int .i64 (ck2 x y)) ∧ Below w.heap.size w w' := by
  obtain ⟨k1, n1, s1, b1, b2, b3, b4, b5, b6, rfl⟩ := V5 hx
  obtain ⟨k2, n2, s2, e1, e2, e3, e4, e5, e6, rfl⟩ := V5 hy
  have HX := Lib.hid hx
  have HY := Lib.hid hy
  obtain ⟨z, hz⟩ : ∃ z, chkF x = z := ⟨_, rfl⟩
  have HZ := Lib.hid hz
  have HC : Hid (ck2 x y = if z ≠ 0 then z else chkF y) := Lib.hid (by rw [← hz]; rfl)
  clear hx hy hz
  go_enter Try.func10, Try.ntmps10
  go_upto_region 1 with (fail)
  refine wp_vr2 fun W hbW hR1 hR2 => ?_
  obtain ⟨a0, a1, a2, a3, a4⟩ := va5 hR1
  have HR2 := Lib.hid hR2
  have HBW := Lib.hid hbW
  clear hR1 hR2 hbW
  go_wp2_with fail
  refine (check_at x _ W (RepV.ext HBW.out HX.out)).mono ?_
  rintro e w1 ⟨rfl, hb1⟩
  rw [HZ.out]
  have HB1 := Lib.hid (ext_trans HBW.out hb1)
  obtain ⟨d0, d1, d2, d3, d4⟩ := va5 (HR2.out.ext hb1)
  clear a0 a1 a2 a3 a4 hb1
  by_cases h : z = 0
  · have HN := Lib.hid (HC.out.trans (if_neg (by rw [h]; simp)))
    subst h
    clear HC
    go_wp2_with fail
    refine (check_at y _ w1 (RepV.ext HB1.out HY.out)).mono ?_
    rintro e w2 ⟨rfl, hb2⟩
    go_wp2_with fail
    go_ret
    exact ⟨ret_int HN.out.symm, ext_trans HB1.out hb2⟩
  · have HN := Lib.hid (HC.out.trans (if_pos h))
    have hzb : (z != 0) = true := by simpa using h
    clear HC
    go_wp2_with fail
    go_ret
    exact ⟨ret_int HN.out.symm, HB1.out⟩
set_option maxRecDepth 100000 in
set_option maxHeartbeats 16000000 in
theorem checked_at (x : V) (cx : List Value) (w : World) (hx : RepV w x cx) : Calls Try.prog 11 #[.agg cx.toArray] w (CkPost x cx w) := by
  obtain ⟨k1, n1, s1, b1, b2, b3, b4, b5, b6, rfl⟩ := V5 hx
  have HX := Lib.hid hx
  obtain ⟨z, hz⟩ : ∃ z, chkF x = z := ⟨_, rfl⟩
  have HZ := Lib.hid hz
  have HC : Hid (chkdF x = if z ≠ 0 then (V0, z) else (x, 0)) := Lib.hid (by rw [← hz]; rfl)
  clear hx hz
  go_enter Try.func11, Try.ntmps11
  go_upto_region 1 with (fail)
  refine wp_vr2 fun W hbW hR1 hR2 => ?_
  obtain ⟨a0, a1, a2, a3, a4⟩ := va5 hR1
  have HR1 := Lib.hid hR1
  have HR2 := Lib.hid hR2
  have HBW := Lib.hid hbW
  clear hR1 hR2 hbW
  go_wp2_with fail
  refine (check_at x _ W (RepV.ext HBW.out HX.out)).mono ?_
  rintro e w1 ⟨rfl, hb1⟩
  rw [HZ.out]
  have HB1 := Lib.hid (ext_trans HBW.out hb1)
  have HR3 := Lib.hid (HR2.out.ext hb1)
  have HR4 := Lib.hid (HR1.out.ext hb1)
  clear a0 a1 a2 a3 a4 hb1
  obtain ⟨a0, a1, a2, a3, a4⟩ := va5 HR4.out
  by_cases h : z = 0
  · have HN := Lib.hid (HC.out.trans (if_neg (by rw [h]; simp)))
    subst h
    clear HC
    go_wp2_with (refine wpList_store_row rfl _ _ _ rfl (w.heap.size + 1) (vAr k1 n1 s1 (.slice b1 b2 b3) (.slice b4 b5 b6)) rfl rfl _ _ (HR3.out) (v_inf5 _ _ _ _ _) rfl (v_all5 _ _ _ _ _ _ _ _ _) ?_)
    (try simp only [Exit.inBlock, Exit.then])
    refine bodyPost_ret (v := .tuple #[.agg (vAr k1 n1 s1 (.slice b1 b2 b3) (.slice b4 b5 b6)), .int .i64 0]) (results_row_tmp rfl _ _ _ _ _ _ _ _ rfl (HR3.out.row _) Try.underlying25 rfl (v_inf5 _ _ _ _ _) rfl) rfl ?_
    refine ⟨_, by rw [HN.out], below_setRow HB1.out (by omega) _, fun W9 M h9 => ?_⟩
    rw [HN.out]
    exact h9
  · have HN := Lib.hid (HC.out.trans (if_pos h))
    have hzb : (z != 0) = true := by simpa using h
    clear HC
    go_wp2_with (refine wpList_store_row rfl _ _ _ rfl (w.heap.size + 1) (vAr 0 0 eB (.slice none 0 0) (.slice none 0 0)) rfl rfl _ _ (HR3.out) (v_inf5 _ _ _ _ _) rfl (v_all5 _ _ _ _ _ _ _ _ _) ?_)
    (try simp only [Exit.inBlock, Exit.then])
    refine bodyPost_ret (v := .tuple #[.agg (vAr 0 0 eB (.slice none 0 0) (.slice none 0 0)), .int .i64 z]) (results_row_tmp rfl _ _ _ _ _ _ _ _ rfl (HR3.out.row _) Try.underlying25 rfl (v_inf5 _ _ _ _ _) rfl) rfl ?_
    refine ⟨[.int .i64 0, .int .i64 0, .string eB, .slice none 0 0, .slice none 0 0], by rw [HN.out], below_setRow HB1.out (by omega) _, fun W9 M h9 => ?_⟩
    rw [HN.out]
    exact fun _ _ => rep_zero _
set_option maxRecDepth 100000 in
set_option maxHeartbeats 16000000 in
theorem merge_at (x y : V) (cx cy : List Value) (w : World) (hx : RepV w x cx) (hy : RepV w y cy) : Calls Try.prog 5 #[.agg cx.toArray, .agg cy.toArray] w (ResPost (MergeF x y) w) := by
  obtain ⟨k1, n1, s1, b1, b2, b3, b4, b5, b6, rfl⟩ := V5 hx
  obtain ⟨k2, n2, s2, e1, e2, e3, e4, e5, e6, rfl⟩ := V5 hy
  have HX := Lib.hid hx
  have HY := Lib.hid hy
  obtain ⟨z, hz⟩ : ∃ z, ck2 x y = z := ⟨_, rfl⟩
  have HZ := Lib.hid hz
  have HC : Hid (MergeF x y = if z ≠ 0 then (V0, z) else chkdF (mergeV x y)) := Lib.hid (by rw [← hz]; rfl)
  clear hx hy hz
  go_enter Try.func5, Try.ntmps5
  go_upto_region 1 with (fail)
  refine wp_vr3 fun W hbW hR1 hR2 hR3 => ?_
  obtain ⟨a0, a1, a2, a3, a4⟩ := va5 hR1
  obtain ⟨d0, d1, d2, d3, d4⟩ := va5 hR2
  have HR1 := Lib.hid hR1
  have HR2 := Lib.hid hR2
  have HR3 := Lib.hid hR3
  have HBW := Lib.hid hbW
  clear hR1 hR2 hR3 hbW
  go_wp2_with fail
  refine (checkTwo_at x y _ _ W (RepV.ext HBW.out HX.out) (RepV.ext HBW.out HY.out)).mono ?_
  rintro e w1 ⟨rfl, hb1⟩
  rw [HZ.out]
  have HB1 := Lib.hid (ext_trans HBW.out hb1)
  have HQ1 := Lib.hid (HR1.out.ext hb1)
  have HQ2 := Lib.hid (HR2.out.ext hb1)
  have HQ3 := Lib.hid (HR3.out.ext hb1)
  clear a0 a1 a2 a3 a4 d0 d1 d2 d3 d4 hb1 HR1 HR2 HR3
  by_cases h : z = 0
  · have HN := Lib.hid (HC.out.trans (if_neg (by rw [h]; simp)))
    have HCK : Hid (chkV x = 0 ∧ chkV y = 0) := Lib.hid (by
      have := ck2_ok (HZ.out.trans h)
      exact ⟨chkF_chkV this.1, chkF_chkV this.2⟩)
    subst h
    clear HC
    obtain ⟨d0, d1, d2, d3, d4⟩ := va5 HQ2.out
    obtain ⟨a0, a1, a2, a3, a4⟩ := va5 HQ1.out
    go_wp2_with fail
    refine (mgV y x _ _ w1 (RepV.ext HB1.out HX.out) (RepV.ext HB1.out HY.out) HCK.out.1 HCK.out.2).mono ?_
    rintro e w2 ⟨c, rfl, hf, hb2⟩
    obtain ⟨k5, n5, s5, a5, m5, r5, a6, m6, r6, rfl⟩ := V5 hf.now
    have HB2 := Lib.hid (ext_trans HB1.out hb2)
    have HF2 := Lib.hid hf
    have HLT : Hid (w.heap.size + 2 < w1.heap.size) := Lib.hid HQ3.out.lt
    have HP3 := Lib.hid (HQ3.out.ext hb2)
    clear a0 a1 a2 a3 a4 d0 d1 d2 d3 d4 hf hb2 HQ1 HQ2 HQ3
    go_wp2_with fail
    refine (checked_at _ _ w2 HF2.out.now).mono ?_
    rintro e w3 ⟨c, rfl, hb3, hfr⟩
    generalize chkdF _ = rr at *
    have hfr2 := hfr _ _ HF2.out
    obtain ⟨k7, n7, s7, a7, m7, r7, a8, m8, r8, rfl⟩ := V5 hfr2.now
    have HFR : Hid (∀ A, RepV (w3.setRow (w.heap.size + 2) A) rr.1 _) := Lib.hid (fun A => hfr2 _ (fun q h1 h2 => (setRow_other _ _ _ _ (by have := HLT.out; omega)).trans (Kept.below hb3 q h1 h2)))
    have HB3 := Lib.hid (ext_trans HB2.out hb3)
    have HP4 := Lib.hid (HP3.out.ext hb3)
    clear hb3 HP3 hfr hfr2
    go_wp2_with (refine wpList_store_row rfl _ _ _ rfl (w.heap.size + 2) (vAr k7 n7 s7 (.slice a7 m7 r7) (.slice a8 m8 r8)) rfl rfl _ _ (HP4.out) (v_inf5 _ _ _ _ _) rfl (v_all5 _ _ _ _ _ _ _ _ _) ?_)
    (try simp only [Exit.inBlock, Exit.then])
    refine bodyPost_ret (v := .tuple #[.agg (vAr k7 n7 s7 (.slice a7 m7 r7) (.slice a8 m8 r8)), .int .i64 rr.2]) (results_row_tmp rfl _ _ _ _ _ _ _ _ rfl (HP4.out.row _) Try.underlying25 rfl (v_inf5 _ _ _ _ _) rfl) rfl ?_
    show ResPost (MergeF x y) w _ _
    rw [HN.out]
    exact ⟨_, rfl, HFR.out _, below_setRow HB3.out (by omega) _⟩
  · have HN := Lib.hid (HC.out.trans (if_pos h))
    have hzb : (z != 0) = true := by simpa using h
    clear HC
    go_wp2_with (refine wpList_store_row rfl _ _ _ rfl (w.heap.size + 2) (vAr 0 0 eB (.slice none 0 0) (.slice none 0 0)) rfl rfl _ _ (HQ3.out) (v_inf5 _ _ _ _ _) rfl (v_all5 _ _ _ _ _ _ _ _ _) ?_)
    (try simp only [Exit.inBlock, Exit.then])
    refine bodyPost_ret (v := .tuple #[.agg (vAr 0 0 eB (.slice none 0 0) (.slice none 0 0)), .int .i64 z]) (results_row_tmp rfl _ _ _ _ _ _ _ _ rfl (HQ3.out.row _) Try.underlying25 rfl (v_inf5 _ _ _ _ _) rfl) rfl ?_
    show ResPost (MergeF x y) w _ _
    rw [HN.out]
    exact ⟨_, rfl, rep_zero _, below_setRow HB1.out (by omega) _⟩
set_option maxRecDepth 100000 in
set_option maxHeartbeats 16000000 in
theorem patch_at (x y : V) (cx cy : List Value) (w : World) (hx : RepV w x cx) (hy : RepV w y cy) : Calls Try.prog 7 #[.agg cx.toArray, .agg cy.toArray] w (ResPost (PatchF x y) w) := by
  obtain ⟨k1, n1, s1, b1, b2, b3, b4, b5, b6, rfl⟩ := V5 hx
  obtain ⟨k2, n2, s2, e1, e2, e3, e4, e5, e6, rfl⟩ := V5 hy
  have HX := Lib.hid hx
  have HY := Lib.hid hy
  obtain ⟨z, hz⟩ : ∃ z, ck2 x y = z := ⟨_, rfl⟩
  have HZ := Lib.hid hz
  have HC : Hid (PatchF x y = if z ≠ 0 then (V0, z) else if noneV y = true then (V0, 3) else chkdF (patchV x y)) := Lib.hid (by rw [← hz]; rfl)
  clear hx hy hz
  go_enter Try.func7, Try.ntmps7
  go_upto_region 1 with (fail)
  refine wp_vr3 fun W hbW hR1 hR2 hR3 => ?_
  obtain ⟨a0, a1, a2, a3, a4⟩ := va5 hR1
  obtain ⟨d0, d1, d2, d3, d4⟩ := va5 hR2
  have HR1 := Lib.hid hR1
  have HR2 := Lib.hid hR2
  have HR3 := Lib.hid hR3
  have HBW := Lib.hid hbW
  clear hR1 hR2 hR3 hbW
  go_wp2_with fail
  refine (checkTwo_at x y _ _ W (RepV.ext HBW.out HX.out) (RepV.ext HBW.out HY.out)).mono ?_
  rintro e w1 ⟨rfl, hb1⟩
  rw [HZ.out]
  have HB1 := Lib.hid (ext_trans HBW.out hb1)
  have HQ1 := Lib.hid (HR1.out.ext hb1)
  have HQ2 := Lib.hid (HR2.out.ext hb1)
  have HQ3 := Lib.hid (HR3.out.ext hb1)
  clear a0 a1 a2 a3 a4 d0 d1 d2 d3 d4 hb1 HR1 HR2 HR3
  by_cases h : z = 0
  · have HN := Lib.hid (HC.out.trans (if_neg (by rw [h]; simp)))
    have HCK : Hid (chkV x = 0 ∧ chkV y = 0) := Lib.hid (by
      have := ck2_ok (HZ.out.trans h)
      exact ⟨chkF_chkV this.1, chkF_chkV this.2⟩)
    subst h
    clear HC
    obtain ⟨d0, d1, d2, d3, d4⟩ := va5 HQ2.out
    go_wp2_with fail
    refine (hnV y _ w1 (RepV.ext HB1.out HY.out)).mono ?_
    rintro e w9 ⟨rfl, hb9⟩
    replace HB1 := Lib.hid (ext_trans HB1.out hb9)
    replace HQ1 := Lib.hid (HQ1.out.ext hb9)
    replace HQ2 := Lib.hid (HQ2.out.ext hb9)
    replace HQ3 := Lib.hid (HQ3.out.ext hb9)
    clear hb9 d0 d1 d2 d3 d4
    obtain ⟨nb, hnb⟩ : ∃ b, noneV y = b := ⟨_, rfl⟩
    rw [hnb]
    rw [hnb] at HN
    clear hnb
    generalize w9 = w1 at *
    cases nb
    · replace HN := Lib.hid (HN.out.trans (if_neg (by simp)))
      obtain ⟨d0, d1, d2, d3, d4⟩ := va5 HQ2.out
      obtain ⟨a0, a1, a2, a3, a4⟩ := va5 HQ1.out
      go_wp2_with fail
      refine (ptV x y _ _ w1 (RepV.ext HB1.out HX.out) (RepV.ext HB1.out HY.out) HCK.out.1 HCK.out.2).mono ?_
      rintro e w2 ⟨c, rfl, hf, hb2⟩
      obtain ⟨k5, n5, s5, a5, m5, r5, a6, m6, r6, rfl⟩ := V5 hf.now
      have HB2 := Lib.hid (ext_trans HB1.out hb2)
      have HF2 := Lib.hid hf
      have HLT : Hid (w.heap.size + 2 < w1.heap.size) := Lib.hid HQ3.out.lt
      have HP3 := Lib.hid (HQ3.out.ext hb2)
      clear a0 a1 a2 a3 a4 d0 d1 d2 d3 d4 hf hb2 HQ1 HQ2 HQ3
      go_wp2_with fail
      refine (checked_at _ _ w2 HF2.out.now).mono ?_
      rintro e w3 ⟨c, rfl, hb3, hfr⟩
      generalize chkdF _ = rr at *
      have hfr2 := hfr _ _ HF2.out
      obtain ⟨k7, n7, s7, a7, m7, r7, a8, m8, r8, rfl⟩ := V5 hfr2.now
      have HFR : Hid (∀ A, RepV (w3.setRow (w.heap.size + 2) A) rr.1 _) := Lib.hid (fun A => hfr2 _ (fun q h1 h2 => (setRow_other _ _ _ _ (by have := HLT.out; omega)).trans (Kept.below hb3 q h1 h2)))
      have HB3 := Lib.hid (ext_trans HB2.out hb3)
      have HP4 := Lib.hid (HP3.out.ext hb3)
      clear hb3 HP3 hfr hfr2
      go_wp2_with (refine wpList_store_row rfl _ _ _ rfl (w.heap.size + 2) (vAr k7 n7 s7 (.slice a7 m7 r7) (.slice a8 m8 r8)) rfl rfl _ _ (HP4.out) (v_inf5 _ _ _ _ _) rfl (v_all5 _ _ _ _ _ _ _ _ _) ?_)
      (try simp only [Exit.inBlock, Exit.then])
      refine bodyPost_ret (v := .tuple #[.agg (vAr k7 n7 s7 (.slice a7 m7 r7) (.slice a8 m8 r8)), .int .i64 rr.2]) (results_row_tmp rfl _ _ _ _ _ _ _ _ rfl (HP4.out.row _) Try.underlying25 rfl (v_inf5 _ _ _ _ _) rfl) rfl ?_
      show ResPost (PatchF x y) w _ _
      rw [HN.out]
      exact ⟨_, rfl, HFR.out _, below_setRow HB3.out (by omega) _⟩
    · replace HN := Lib.hid (HN.out.trans (if_pos rfl))
      go_wp2_with (refine wpList_store_row rfl _ _ _ rfl (w.heap.size + 2) (vAr 0 0 eB (.slice none 0 0) (.slice none 0 0)) rfl rfl _ _ (HQ3.out) (v_inf5 _ _ _ _ _) rfl (v_all5 _ _ _ _ _ _ _ _ _) ?_)
      (try simp only [Exit.inBlock, Exit.then])
      refine bodyPost_ret (v := .tuple #[.agg (vAr 0 0 eB (.slice none 0 0) (.slice none 0 0)), .int .i64 3]) (results_row_tmp rfl _ _ _ _ _ _ _ _ rfl (HQ3.out.row _) Try.underlying25 rfl (v_inf5 _ _ _ _ _) rfl) rfl ?_
      show ResPost (PatchF x y) w _ _
      rw [HN.out]
      exact ⟨_, rfl, rep_zero _, below_setRow HB1.out (by omega) _⟩
  · have HN := Lib.hid (HC.out.trans (if_pos h))
    have hzb : (z != 0) = true := by simpa using h
    clear HC
    go_wp2_with (refine wpList_store_row rfl _ _ _ rfl (w.heap.size + 2) (vAr 0 0 eB (.slice none 0 0) (.slice none 0 0)) rfl rfl _ _ (HQ3.out) (v_inf5 _ _ _ _ _) rfl (v_all5 _ _ _ _ _ _ _ _ _) ?_)
    (try simp only [Exit.inBlock, Exit.then])
    refine bodyPost_ret (v := .tuple #[.agg (vAr 0 0 eB (.slice none 0 0) (.slice none 0 0)), .int .i64 z]) (results_row_tmp rfl _ _ _ _ _ _ _ _ rfl (HQ3.out.row _) Try.underlying25 rfl (v_inf5 _ _ _ _ _) rfl) rfl ?_
    show ResPost (PatchF x y) w _ _
    rw [HN.out]
    exact ⟨_, rfl, rep_zero _, below_setRow HB1.out (by omega) _⟩
end Fd
end Go.Proofs.Ytgcjnnkpopilpaa
