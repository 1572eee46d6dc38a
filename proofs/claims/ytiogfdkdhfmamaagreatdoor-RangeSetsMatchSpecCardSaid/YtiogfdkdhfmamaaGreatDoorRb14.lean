/- copyVersion and copyStretch of package value. Printed by gen_combd.py. sameCut and sameStretch of the law, slices.EqualFunc at stretches: where both are equal. Printed by gen_eqt.py. -/
import Derived.Test.YtiogfdkdhfmamaaGreatDoorRb12
import Derived.Test.YtiogfdkdhfmamaaGreatDoorShelf
import Derived.Deep.RegionWith
namespace Go.Proofs.YtiogfdkdhfmamaaGreatDoor
open Go.RowKit
namespace Rg
open _root_.Go.Proofs.YtiogfdkdhfmamaaGreatDoor.Nt (RH RH.cell RH.box RH.lt RH.new RH.ext RH.fre RH.set RH.other)
theorem va_all (x : CA) : (vaL x).toArray.all (·.oneCell') = true := by
  rw [Array.all_eq_true_iff_forall_mem]
  exact fun v hv => caL_one x v (by
    have h : v ∈ vaL x := by simpa using hv
    exact List.mem_append_left [.bool x.c.af] h)
theorem clone_str (l : List ByteArray) (a : Option Addr) (c : Nat) (w : World) (h : Sl w (.slice a l.length c) l.length (strs l)) (hl : l.length ≤ 100000) :
    Calls Tryz.prog 44 #[.slice a l.length c] w fun e w' => ∃ a' c', e = .returned (.slice a' l.length c') ∧ Fresh w.heap.size (fun w => Sl w (.slice a' l.length c') l.length (strs l)) w' ∧ Below w.heap.size w w' := by
  cases a with
  | none =>
    obtain ⟨a', cap, hv, h1, h2, h0, h3⟩ := h
    cases hv
    have := h0 rfl
    have hl0 : l.length = 0 := by omega
    obtain rfl := List.length_eq_zero_iff.1 hl0
    refine (Tryz.slices_Clone_string_nil _ _ w).mono ?_
    rintro e w' ⟨rfl, rfl⟩
    exact ⟨none, 0, rfl, fresh_nil _ _, Below.refl _ _⟩
  | some ad =>
    by_cases hl0 : l.length = 0
    · obtain rfl := List.length_eq_zero_iff.1 hl0
      refine (Tryz.slices_Clone_string_zero ad c w).mono ?_
      rintro e w' ⟨v', rfl, hO, _, hb⟩
      obtain ⟨a', c', rfl, _⟩ := Sl.ofOwn hO
      exact ⟨a', c', rfl, fresh_own hO, hb⟩
    · obtain ⟨a', cap, hv, h1, h2, h0, h3⟩ := h
      cases hv
      obtain ⟨b, o, hb, _⟩ := h3 0 (.string (l[0]'(by omega))) (strs_get (by omega))
      cases hb
      refine (Tryz.slices_Clone_string b o l.length c l w (Nat.le_refl _) (by omega) (fun j hj => ?_)).mono ?_
      · obtain ⟨b', o', hb', hc⟩ := h3 j (.string (l[j]'hj)) (strs_get hj)
        cases hb'
        rw [hc, List.getD_eq_getElem?_getD, List.getElem?_eq_getElem hj]; rfl
      · rintro e w' ⟨v', rfl, hO, _, hb⟩
        rw [List.take_length] at hO
        obtain ⟨a', c', rfl, _⟩ := Sl.ofOwn hO
        exact ⟨a', c', rfl, fresh_own hO, hb⟩
def CpVPost (x : CA) (w : World) (e : Ending) (w' : World) : Prop := ∃ a' c', e = .returned (.agg #[.int .i64 x.c.v.ma, .int .i64 x.c.v.mi, .int .i64 x.c.v.pa, .slice a' x.c.v.pre.length c']) ∧ Fresh w.heap.size (fun w => Sl w (.slice a' x.c.v.pre.length c') x.c.v.pre.length (strs x.c.v.pre)) w' ∧ Below w.heap.size w w'
set_option maxRecDepth 100000 in
set_option maxHeartbeats 8000000 in
theorem copyVersion_at (x : CA) (w : World) (hx : x.ok w) (hl : x.c.v.pre.length ≤ 100000) : Calls Tryz.prog 28 #[.agg (vaL x).toArray] w (CpVPost x w) := by
  have HX := Lib.hid hx.sl
  have HL := Lib.hid hl
  clear hx hl
  go_enter Tryz.func28, Tryz.ntmps28
  go_upto_region 1 with (fail)
  refine Tx.wp_vr2 fun W hbW hR1 hR2 => ?_
  have c3 : W.cell? ⟨w.heap.size, 3, none⟩ = some (.slice x.a x.c.v.pre.length x.n) := (hR1.cell 3).trans rfl
  have hS : w.heap.size ≤ W.heap.size := hbW.size
  have hSl : w.heap.size + 1 < W.heap.size := hR2.lt
  generalize hb : w.heap.size = b at *
  have HB := Lib.hid hb
  clear hb
  go_wp2_with fail
  refine (clone_str x.c.v.pre x.a x.n W (HX.out.ext (by rw [HB.out]; exact hbW)) HL.out).mono ?_
  rintro e w3 ⟨a', c', rfl, hfr, hb3⟩
  replace hR1 := hR1.ext hb3
  replace hR2 := hR2.ext hb3
  have hbw := hbW.trans (hb3.mono hS)
  have h3s := hb3.size
  clear c3 hbW hb3
  go_upto_region 2 with (refine wpList_store_in rfl _ _ _ rfl b 3 (.slice a' x.c.v.pre.length c') [.slice a' x.c.v.pre.length c'] rfl rfl rfl (vaL x) _ hR1 (by show 3 + 1 ≤ 4; omega) (by kernel_rfl) (by intro u hu; rw [List.mem_singleton.1 hu]; rfl) ?_; intro w4 hR4 hg4)
  have hR5 := rh_grown hR2 hg4 (by simp)
  replace hR4 : RH w4 b (vaL ⟨x.c, a', c'⟩).toArray _ := hR4
  have hbw4 := hbw.trans (grown_below hg4 (by omega) (Nat.le_refl _))
  have hF4 := hfr.kept hg4.size (fun q h1 h2 => hg4.block q h2 (by simp; omega))
  clear hR1 hR2 hg4 hbw hfr
  have hsc : (storeCells ⟨b + 1, 0, none⟩ (vaL ⟨x.c, a', c'⟩) 0).run Tryz.prog w4 = .ok () (w4.setRow (b + 1) (vaL ⟨x.c, a', c'⟩).toArray) := Nt.store_cells (P := Tryz.prog) (ty := 29) hR5 (va_info ⟨x.c, a', c'⟩) rfl (va_all _)
  go_wp2_with (refine wpList_load_agg rfl _ _ rfl b 0 (by rfl) (vaL ⟨x.c, a', c'⟩) (fun j v hj => by rw [Nat.zero_add, hR4.cell]; exact (List.getElem?_toArray).trans hj) _ Tryz.underlying29 rfl (va_info _) ?_)
  have hFIN : CpVPost x w (.returned (.agg (vaL ⟨x.c, a', c'⟩).toArray)) (w4.setRow (b + 1) (vaL ⟨x.c, a', c'⟩).toArray) := ⟨a', c', rfl, by
    rw [HB.out]
    exact (hF4.kept (w' := w4.setRow (b + 1) _) (by rw [setRow_size]; exact Nat.le_refl _) (fun q h1 h2 => setRow_other _ _ _ _ (by omega))).mono (by omega), by
    rw [HB.out]; exact below_setRow hbw4 (by omega) _⟩
  exact bodyPost_ret (v := .agg (vaL ⟨x.c, a', c'⟩).toArray) (results_cell_row rfl _ _ _ _ _ _ _ rfl (hR5.row _) Tryz.underlying29 rfl (va_info ⟨x.c, a', c'⟩)) rfl hFIN
theorem sa_cells {w : World} {b : Nat} {t : TypeId} {s : SA} (h : RH w b (saL s).toArray t) : w.cell? ⟨b, 0, none⟩ = some (.int .i64 s.fr.c.v.ma) ∧ w.cell? ⟨b, 1, none⟩ = some (.int .i64 s.fr.c.v.mi) ∧ w.cell? ⟨b, 2, none⟩ = some (.int .i64 s.fr.c.v.pa) ∧ w.cell? ⟨b, 3, none⟩ = some (.slice s.fr.a s.fr.c.v.pre.length s.fr.n) ∧ w.cell? ⟨b, 4, none⟩ = some (.bool s.fr.c.af) ∧ w.cell? ⟨b, 5, none⟩ = some (.int .i64 s.to.c.v.ma) ∧ w.cell? ⟨b, 6, none⟩ = some (.int .i64 s.to.c.v.mi) ∧ w.cell? ⟨b, 7, none⟩ = some (.int .i64 s.to.c.v.pa) ∧ w.cell? ⟨b, 8, none⟩ = some (.slice s.to.a s.to.c.v.pre.length s.to.n) ∧ w.cell? ⟨b, 9, none⟩ = some (.bool s.to.c.af) ∧ w.cell? ⟨b, 10, none⟩ = some (.bool s.en) :=
  ⟨(h.cell 0).trans rfl, (h.cell 1).trans rfl, (h.cell 2).trans rfl, (h.cell 3).trans rfl, (h.cell 4).trans rfl, (h.cell 5).trans rfl, (h.cell 6).trans rfl, (h.cell 7).trans rfl, (h.cell 8).trans rfl, (h.cell 9).trans rfl, (h.cell 10).trans rfl⟩
theorem kept_set {N b j : Nat} {v : Value} {w w' : World} (h : Kept N w w') (hb : b < N) : Kept N w (w'.setCell ⟨b, j, none⟩ v) := fun q h1 h2 => (heap_setCell_other w' ⟨b, j, none⟩ q v (fun e => by have e' : b = q := e.symm; omega)).trans (h q h1 h2)
theorem set8 {w : World} {b : Nat} {t : TypeId} {a0 a1 a2 a3 a4 a5 a6 a7 a8 a9 a10 : Value} (h : RH w b #[a0, a1, a2, a3, a4, a5, a6, a7, a8, a9, a10] t) (v0 v1 v2 v3 v5 v6 v7 v8 : Value) : RH ((((((((w.setCell ⟨b, 0, none⟩ v0).setCell ⟨b, 1, none⟩ v1).setCell ⟨b, 2, none⟩ v2).setCell ⟨b, 3, none⟩ v3).setCell ⟨b, 5, none⟩ v5).setCell ⟨b, 6, none⟩ v6).setCell ⟨b, 7, none⟩ v7).setCell ⟨b, 8, none⟩ v8) b #[v0, v1, v2, v3, a4, v5, v6, v7, v8, a9, a10] t := by
  have h8 := ((((((((h.set 0 v0).set 1 v1).set 2 v2).set 3 v3).set 5 v5).set 6 v6).set 7 v7).set 8 v8)
  simpa using h8
/-- a copy of a stretch, in blocks of its own -/
def CpSPost (s : SA) (w : World) (e : Ending) (w' : World) : Prop := ∃ s' : SA, e = .returned (.agg (saL s').toArray) ∧ s'.raw = s.raw ∧ Fresh w.heap.size (fun w => s'.ok w) w' ∧ Below w.heap.size w w'
set_option maxRecDepth 100000 in
set_option maxHeartbeats 8000000 in
theorem copyStretch_at (s : SA) (w : World) (hs : s.ok w) (hl1 : s.fr.c.v.pre.length ≤ 100000) (hl2 : s.to.c.v.pre.length ≤ 100000) : Calls Tryz.prog 20 #[.agg (saL s).toArray] w (CpSPost s w) := by
  have HS := Lib.hid hs
  have HL1 := Lib.hid hl1
  have HL2 := Lib.hid hl2
  clear hs hl1 hl2
  go_enter Tryz.func20, Tryz.ntmps20
  go_upto_region 1 with (fail)
  refine Tx.wp_vr2 fun W hbW hR1 hR2 => ?_
  have HC1 : Hid (∀ V, Below w.heap.size w V → Calls Tryz.prog 28 #[.agg (vaL s.fr).toArray] V (CpVPost s.fr V)) := Lib.hid (fun V hV => copyVersion_at s.fr V (HS.out.fr.ext hV) HL1.out)
  have HC2 : Hid (∀ V, Below w.heap.size w V → Calls Tryz.prog 28 #[.agg (vaL s.to).toArray] V (CpVPost s.to V)) := Lib.hid (fun V hV => copyVersion_at s.to V (HS.out.to.ext hV) HL2.out)
  have hbN : w.heap.size < W.heap.size := hR1.lt
  have hbN2 : w.heap.size + 1 < W.heap.size := hR2.lt
  generalize hb : w.heap.size = b at *
  have HB := Lib.hid hb
  clear hb
  obtain ⟨c0, c1, c2, c3, c4, c5, c6, c7, c8, c9, c10⟩ := sa_cells hR1
  have hz := hR1.fre
  have HR1 := Lib.hid hR1
  have HR2 := Lib.hid hR2
  have HBW := Lib.hid hbW
  clear hR1 hR2 hbW
  go_region_with (first
    | (go_at_call 28; refine (HC1.out _ HBW.out.drew).mono ?_; rintro e w3 ⟨a1, n1, rfl, hf1, hb3⟩; have hR3 := HR1.out.ext (ext_trans ((Below.refl W.heap.size W).drew) hb3); have hR4 := hR3; obtain ⟨c0, c1, c2, c3, c4, c5, c6, c7, c8, c9, c10⟩ := sa_cells hR4; have hz := hR4.fre; have HZ3 := Lib.hid (HR2.out.ext (ext_trans ((Below.refl W.heap.size W).drew) hb3)); have HV3 := Lib.hid (HBW.out.drew.trans (hb3.mono (Nat.le_of_lt hbN))); have HS3 := Lib.hid hb3.size; have HR3 := Lib.hid hR3; have HF1 := Lib.hid hf1; clear hR4 hR3 hf1 hb3)
    | (go_at_call 28; refine (HC2.out _ HV3.out).mono ?_; rintro e w4 ⟨a2, n2, rfl, hf2, hb4⟩; have hR4 := HR3.out.ext hb4; obtain ⟨c0, c1, c2, c3, c4, c5, c6, c7, c8, c9, c10⟩ := sa_cells hR4; have hz := hR4.fre; have HZ4 := Lib.hid (HZ3.out.ext hb4); have HV4 := Lib.hid (HV3.out.trans (hb4.mono (Nat.le_trans (Nat.le_of_lt hbN) HS3.out))); have HK4 := Lib.hid (HF1.out.kept hb4.size (Kept.below hb4)); have HS4 := Lib.hid (Nat.le_trans HS3.out hb4.size); have HR4 := Lib.hid hR4; have HF2 := Lib.hid (hf2.mono HS3.out); clear hR4 hf2 hb4))
  all_goals
    clear c0 c1 c2 c3 c4 c5 c6 c7 c8 c9 c10 hz
    generalize hX : World.setCell _ _ _ = X
    obtain ⟨s', hs'⟩ : ∃ s', s' = SA.mk ⟨s.fr.c, a1, n1⟩ ⟨s.to.c, a2, n2⟩ s.en := ⟨_, rfl⟩
    have hRX : RH X b (saL s').toArray 33 := by
      rw [← hX, hs']
      exact set8 HR4.out _ _ _ _ _ _ _ _
    obtain ⟨AZ, hZX, hAZ⟩ : ∃ A, RH X (b + 1) A 33 ∧ A.size = 11 := by
      rw [← hX]
      exact ⟨_, ((((((((HZ4.out.other (p := ⟨b, 0, none⟩) (by simp) _).other (p := ⟨b, 1, none⟩) (by simp) _).other (p := ⟨b, 2, none⟩) (by simp) _).other (p := ⟨b, 3, none⟩) (by simp) _).other (p := ⟨b, 5, none⟩) (by simp) _).other (p := ⟨b, 6, none⟩) (by simp) _).other (p := ⟨b, 7, none⟩) (by simp) _).other (p := ⟨b, 8, none⟩) (by simp) _), rfl⟩
    have hVX : Below b w X := by
      rw [← hX]
      exact ((((((((HV4.out.setCell (Nat.le_refl b) _).setCell (Nat.le_refl b) _).setCell (Nat.le_refl b) _).setCell (Nat.le_refl b) _).setCell (Nat.le_refl b) _).setCell (Nat.le_refl b) _).setCell (Nat.le_refl b) _).setCell (Nat.le_refl b) _)
    have hKX : Kept W.heap.size w4 X := by
      rw [← hX]
      exact kept_set (kept_set (kept_set (kept_set (kept_set (kept_set (kept_set (kept_set (fun _ _ _ => rfl) hbN) hbN) hbN) hbN) hbN) hbN) hbN) hbN
    have hSX : w4.heap.size ≤ X.heap.size := by rw [← hX]; simp
    have hOK : Fresh W.heap.size (fun w => s'.ok w) X := fun w' k => by
      have k1 := HK4.out.kept hSX hKX w' k
      have k2 := (HF2.out.kept hSX hKX) w' k
      rw [hs']
      exact ⟨⟨k1, HS.out.fr.sz⟩, ⟨k2, HS.out.to.sz⟩⟩
    have hraw : s'.raw = s.raw := by rw [hs']; rfl
    clear HK4 HF2 HR4 HZ4 HV4 hKX hSX hX hs'
    have hsc : (storeCells ⟨b + 1, 0, none⟩ (saL s') 0).run Tryz.prog X = .ok () (X.setRow (b + 1) (saL s').toArray) := Nt.store_cells (P := Tryz.prog) (ty := 33) hZX (sa_info s') hAZ (sa_all s')
    go_wp2_with (refine wpList_load_agg rfl _ _ rfl b 0 (by rfl) (saL s') (fun j v hj => by rw [Nat.zero_add, hRX.cell]; exact (List.getElem?_toArray).trans hj) _ Tryz.underlying33 rfl (sa_info s') ?_)
    have hFIN : CpSPost s w (.returned (.agg (saL s').toArray)) (X.setRow (b + 1) (saL s').toArray) := ⟨s', rfl, hraw, by
      rw [HB.out]
      exact (hOK.kept (by rw [setRow_size]; exact Nat.le_refl _) (fun q h1 h2 => setRow_other _ _ _ _ (by omega))).mono (Nat.le_of_lt hbN), by
      rw [HB.out]; exact below_setRow hVX (by omega) _⟩
    exact bodyPost_ret (v := .agg (saL s').toArray) (results_cell_row rfl _ _ _ _ _ _ _ rfl (hZX.row _) Tryz.underlying33 rfl (sa_info s')) rfl hFIN
end Rg
end Go.Proofs.YtiogfdkdhfmamaaGreatDoor
namespace Go.Proofs.YtiogfdkdhfmamaaGreatDoor
open Go.RowKit
namespace Rg
open _root_.Go.Proofs.YtiogfdkdhfmamaaGreatDoor.Nt (RH RH.cell RH.box RH.lt RH.new RH.ext RH.fre RH.set RH.other)
theorem ca_cells {w : World} {b : Nat} {t : TypeId} {s : CA} (h : RH w b (caL s).toArray t) : w.cell? ⟨b, 0, none⟩ = some (.int .i64 s.c.v.ma) ∧ w.cell? ⟨b, 1, none⟩ = some (.int .i64 s.c.v.mi) ∧ w.cell? ⟨b, 2, none⟩ = some (.int .i64 s.c.v.pa) ∧ w.cell? ⟨b, 3, none⟩ = some (.slice s.a s.c.v.pre.length s.n) ∧ w.cell? ⟨b, 4, none⟩ = some (.bool s.c.af) :=
  ⟨(h.cell 0).trans rfl, (h.cell 1).trans rfl, (h.cell 2).trans rfl, (h.cell 3).trans rfl, (h.cell 4).trans rfl⟩
set_option maxRecDepth 100000 in
set_option maxHeartbeats 8000000 in
theorem sameCut_self (x y : CA) (w : World) (hx : x.ok w) (hy : y.ok w) (he : x.c = y.c) : Calls Tryz.prog 15 #[.agg (caL x).toArray, .agg (caL y).toArray] w fun e w' => e = .returned (.bool true) ∧ Below w.heap.size w w' := by
  have HC : Hid (∀ V, Below w.heap.size w V → Calls Tryz.prog 23 #[.agg (vaL x).toArray, .agg (vaL y).toArray] V fun e w' => e = .returned (.bool true) ∧ Below V.heap.size V w') := Lib.hid (fun V hV => by
    have h := sameVersion_at x.c.v y.c.v (vaL x) (vaL y) V (hx.ext hV).rep (hy.ext hV).rep
    have e1 : sameVer x.c.v y.c.v = true := by rw [he]; unfold sameVer; simp
    rw [e1] at h
    exact h)
  have haf : x.c.af = y.c.af := by rw [he]
  clear he hx hy
  go_enter Tryz.func15, Tryz.ntmps15
  go_upto_region 1 with (fail)
  refine Tx.wp_vr2 fun W hbW hR1 hR2 => ?_
  generalize hb : w.heap.size = b at *
  have HXB := Lib.hid hb
  clear hb
  obtain ⟨a0, a1, a2, a3, a4⟩ := ca_cells hR1
  obtain ⟨b0, b1, b2, b3, b4⟩ := ca_cells hR2
  go_wp2_with fail
  refine (HC.out _ hbW).mono ?_
  rintro e w1 ⟨rfl, hb1⟩
  have hS : b ≤ W.heap.size := Nat.le_of_lt hR1.lt
  have hw1 := hbW.trans (hb1.mono hS)
  replace hR1 := hR1.ext hb1
  replace hR2 := hR2.ext hb1
  clear a0 a1 a2 a3 a4 b0 b1 b2 b3 b4 hb1 hbW HC hS
  obtain ⟨a0, a1, a2, a3, a4⟩ := ca_cells hR1
  obtain ⟨b0, b1, b2, b3, b4⟩ := ca_cells hR2
  rw [haf] at a4
  clear hR1 hR2 haf
  go_wp2
  go_ret
  exact ⟨by simp, by rw [HXB.out]; exact hw1⟩
set_option maxRecDepth 100000 in
set_option maxHeartbeats 8000000 in
theorem sameStretch_self (x y : SA) (w : World) (hx : x.ok w) (hy : y.ok w) (he : x.raw = y.raw) : Calls Tryz.prog 7 #[.agg (saL x).toArray, .agg (saL y).toArray] w fun e w' => e = .returned (.bool true) ∧ Below w.heap.size w w' := by
  have HC : Hid (∀ V, Below w.heap.size w V → Calls Tryz.prog 15 #[.agg (caL x.fr).toArray, .agg (caL y.fr).toArray] V fun e w' => e = .returned (.bool true) ∧ Below V.heap.size V w') := Lib.hid (fun V hV => sameCut_self x.fr y.fr V (hx.ext hV).fr (hy.ext hV).fr (congrArg RS.fr he))
  have HD : Hid (∀ V, Below w.heap.size w V → Calls Tryz.prog 15 #[.agg (caL x.to).toArray, .agg (caL y.to).toArray] V fun e w' => e = .returned (.bool true) ∧ Below V.heap.size V w') := Lib.hid (fun V hV => sameCut_self x.to y.to V (hx.ext hV).to (hy.ext hV).to (congrArg RS.to he))
  have haf : x.en = y.en := congrArg RS.en he
  clear he hx hy
  go_enter Tryz.func7, Tryz.ntmps7
  go_upto_region 1 with (fail)
  refine Tx.wp_vr2 fun W hbW hR1 hR2 => ?_
  generalize hb : w.heap.size = b at *
  have HXB := Lib.hid hb
  clear hb
  have hS : b ≤ W.heap.size := Nat.le_of_lt hR1.lt
  obtain ⟨a0, a1, a2, a3, a4, a5, a6, a7, a8, a9, a10⟩ := sa_cells hR1
  obtain ⟨b0, b1, b2, b3, b4, b5, b6, b7, b8, b9, b10⟩ := sa_cells hR2
  go_wp2_with fail
  refine (HC.out _ hbW).mono ?_
  rintro e w1 ⟨rfl, hb1⟩
  have hw1 := hbW.trans (hb1.mono hS)
  have hS1 : b ≤ w1.heap.size := Nat.le_trans hS hb1.size
  replace hR1 := hR1.ext hb1
  replace hR2 := hR2.ext hb1
  clear a0 a1 a2 a3 a4 a5 a6 a7 a8 a9 a10 b0 b1 b2 b3 b4 b5 b6 b7 b8 b9 b10 hb1 hbW HC hS
  obtain ⟨a0, a1, a2, a3, a4, a5, a6, a7, a8, a9, a10⟩ := sa_cells hR1
  obtain ⟨b0, b1, b2, b3, b4, b5, b6, b7, b8, b9, b10⟩ := sa_cells hR2
  go_wp2_with fail
  refine (HD.out _ hw1).mono ?_
  rintro e w2 ⟨rfl, hb2⟩
  have hw2 := hw1.trans (hb2.mono hS1)
  replace hR1 := hR1.ext hb2
  replace hR2 := hR2.ext hb2
  clear a0 a1 a2 a3 a4 a5 a6 a7 a8 a9 a10 b0 b1 b2 b3 b4 b5 b6 b7 b8 b9 b10 hb2 hw1 HD hS1
  obtain ⟨a0, a1, a2, a3, a4, a5, a6, a7, a8, a9, a10⟩ := sa_cells hR1
  obtain ⟨b0, b1, b2, b3, b4, b5, b6, b7, b8, b9, b10⟩ := sa_cells hR2
  rw [haf] at a10
  clear hR1 hR2 haf a0 a1 a2 a3 a4 a5 a6 a7 a8 a9 b0 b1 b2 b3 b4 b5 b6 b7 b8 b9
  go_wp2
  go_ret
  exact ⟨by simp, by rw [HXB.out]; exact hw2⟩
set_option maxRecDepth 100000 in
set_option maxHeartbeats 8000000 in
theorem equalFunc_str (la lb : List SA) (aa ab : Option Addr) (na nb : Nat) (w : World) (ha : RA w aa na la) (hb : RA w ab nb lb) (he : la.map SA.raw = lb.map SA.raw) :
    Calls Tryz.prog 6 #[.slice aa la.length na, .slice ab lb.length nb, .func (.func 7) #[] #[]] w fun e w' => e = .returned (.bool true) ∧ Below w.heap.size w w' := by
  have hl : la.length = lb.length := by have := congrArg List.length he; simpa using this
  have hl63 := ha.sl.len63
  obtain ⟨n, hn⟩ : ∃ n, la.length = n := ⟨_, rfl⟩
  have hn2 : lb.length = n := by rw [← hl, hn]
  rw [hn] at hl63
  have HN := Lib.hid hn
  have HN2 := Lib.hid hn2
  have HA := Lib.hid ha
  have HB := Lib.hid hb
  have HE := Lib.hid he
  rw [hn, hn2]
  have hne : ((n : Int) != (n : Int)) = false := by simp
  clear ha hb he hl hn hn2
  go_enter Tryz.func6, Tryz.ntmps6
  go_wp2
  go_loopw [17] (fun i wr => ∃ k : Nat, k ≤ n ∧ i = .int .i64 k ∧ Below w.heap.size w wr) (fun i _ => n - (intOf i).toNat)
  case atStart => exact ⟨0, by omega, rfl, Below.refl _ _⟩
  case round =>
    obtain ⟨k, hk, rfl, hb⟩ := hrel
    generalize hX : wr = X at *
    clear hX
    by_cases hlt : k < n
    · have hka : k < la.length := by rw [HN.out]; exact hlt
      have hkb : k < lb.length := by rw [HN2.out]; exact hlt
      obtain ⟨s, hs⟩ : ∃ s, la[k]? = some s := ⟨_, List.getElem?_eq_getElem hka⟩
      obtain ⟨t, ht⟩ : ∃ t, lb[k]? = some t := ⟨_, List.getElem?_eq_getElem hkb⟩
      have hst : s.raw = t.raw := by
        have h1 : (la.map SA.raw)[k]? = some s.raw := by rw [List.getElem?_map, hs]; rfl
        have h2 : (lb.map SA.raw)[k]? = some t.raw := by rw [List.getElem?_map, ht]; rfl
        rw [HE.out, h2] at h1
        injection h1 with h1
        exact h1.symm
      obtain ⟨ok1, p, o, rfl, hp, hc1⟩ := (HA.out.ext hb).at hs
      obtain ⟨ok2, p2, o2, rfl, hp2, hc2⟩ := (HB.out.ext hb).at ht
      have hkn : (k : Int) < (n : Int) := by omega
      have OK1 := Lib.hid ok1
      have OK2 := Lib.hid ok2
      have HST := Lib.hid hst
      clear ok1 ok2 hs ht hst hka hkb
      go_upto_region 6 with (first | (refine wpList_load_agg rfl _ _ rfl p (o + k * 11) (by rfl) (saL s) (fun j v hj => by rw [Nat.add_assoc]; exact hc1 j v hj) _ Tryz.underlying33 rfl (sa_info s) ?_) | (refine wpList_store_row rfl _ _ _ rfl X.heap.size (saL s).toArray rfl rfl _ _ (Nt.RH.new _ _ _) (sa_info s) rfl (sa_all s) ?_))
      refine wp_stored fun W hbW hR => ?_
      have hc2 : ∀ (j : Nat) (v : Value), (saL t)[j]? = some v → W.cell? ⟨p2, o2 + (k * 11 + j), none⟩ = some v := fun j v hj => cell_later hbW (hc2 j v hj)
      have hbw := ext_trans hb hbW
      have HOK1 := Lib.hid (OK1.out.ext hbW)
      have HOK2 := Lib.hid (OK2.out.ext hbW)
      clear hc1 hbW hb OK1 OK2 hp hp2
      generalize X.heap.size = b at *
      go_upto_region 7 with (first | (refine wpList_load_agg rfl _ _ rfl p2 (o2 + k * 11) (by rfl) (saL t) (fun j v hj => by rw [Nat.add_assoc]; exact hc2 j v hj) _ Tryz.underlying33 rfl (sa_info t) ?_) | (refine wpList_store_row rfl _ _ _ rfl W.heap.size (saL t).toArray rfl rfl _ _ (Nt.RH.new _ _ _) (sa_info t) rfl (sa_all t) ?_))
      refine wp_stored fun Z hbZ hR2 => ?_
      replace hR := hR.ext hbZ
      have hbz := ext_trans hbw hbZ
      have HSS := Lib.hid (sameStretch_self s t Z (HOK1.out.ext hbZ) (HOK2.out.ext hbZ) HST.out)
      clear hbw hbZ hc2 HOK1 HOK2 HST
      generalize W.heap.size = b2 at *
      go_wp2_with (first | (refine wpList_load_agg rfl _ _ rfl b 0 (by rfl) (saL s) (fun j v hj => by rw [Nat.zero_add, hR.cell]; exact (List.getElem?_toArray).trans hj) _ Tryz.underlying33 rfl (sa_info s) ?_) | (refine wpList_load_agg rfl _ _ rfl b2 0 (by rfl) (saL t) (fun j v hj => by rw [Nat.zero_add, hR2.cell]; exact (List.getElem?_toArray).trans hj) _ Tryz.underlying33 rfl (sa_info t) ?_))
      refine HSS.out.mono ?_
      rintro e w5 ⟨rfl, hb5⟩
      have hb6 := ext_trans hbz hb5
      clear hR hR2 hbz hb5
      go_wp2
      go_roundw
      case rel => exact ⟨k + 1, by omega, by go_num, hb6⟩
      case measure => simp [intOf]; omega
    · go_wp2
      go_ret
      exact ⟨rfl, hb⟩
end Rg
end Go.Proofs.YtiogfdkdhfmamaaGreatDoor
