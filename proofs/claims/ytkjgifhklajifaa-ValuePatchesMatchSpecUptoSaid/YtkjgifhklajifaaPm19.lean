/- fieldOf of the reference, whatever is known of the elements. Printed by gen_rxe.py. put of the reference. Printed by gen_rwg.py. -/
import Derived.Test.YtkjgifhklajifaaPm18
namespace Go.Proofs.Ytkjgifhklajifaa
open Go.RowKit
namespace Fd
open _root_.Go.Proofs.Ytkjgifhklajifaa.Nt (RH RH.cell RH.box RH.lt RH.new RH.ext RH.fre RH.set RH.other)
open _root_.Go.Proofs.Ytkjgifhklajifaa.Rw (All2 All2.get All2.length All2.append wpList_load_agg wp_stored Kept)
def fofK (k : Int) (fs : List F) (nm : ByteArray) : Option V := if k = 5 then lk fs nm else none
/-- the value under the name, with its cells -/
def FopR {w0 : World} (pe : PF w0) (nm : ByteArray) (r : Option V) (c : List Value) : Prop := (r = none ∧ c = [.int .i64 0, .int .i64 0, .string eB, .slice none 0 0, .slice none 0 0]) ∨ ∃ y, r = some y ∧ pe.P (.mk nm y) (.string nm :: c)
def FopPost {w0 : World} (pe : PF w0) (nm : ByteArray) (r : Option V) (w : World) (e : Ending) (w' : World) : Prop := ∃ c, e = .returned (.tuple #[.agg c.toArray, .bool r.isSome]) ∧ FopR pe nm r c ∧ Below w.heap.size w w'
set_option maxRecDepth 100000 in
set_option maxHeartbeats 8000000 in
theorem fieldP_at {w0 : World} (pe : PF w0) (k n : Int) (s : ByteArray) (ai : Option Addr) (ni ci : Nat) (fs : List F) (af : Option Addr) (cf : Nat) (EF : List (List Value)) (nm : ByteArray) (w : World) (hb0 : Below w0.heap.size w0 w) (hs : Sl w (.slice af fs.length cf) fs.length EF.flatten) (hr0 : All2 pe.P fs EF) :
    Calls Try.prog 27 #[.agg #[.int .i64 k, .int .i64 n, .string s, .slice ai ni ci, .slice af fs.length cf], .string nm] w (FopPost pe nm (fofK k fs nm) w) := by
  have HV := Lib.hid (And.intro hs hr0)
  have HV0 : Hid (All2 (RepF w0) fs EF) := Lib.hid (hr0.mono (fun _ _ k => pe.ok _ _ _ (Below.refl _ _) k))
  have HB0 := Lib.hid hb0
  have hl2 : (fs.length : Int) ≤ 9223372036854775807 := by obtain ⟨_, _, e, k1, k2, _⟩ := hs; cases e; unfold maxLen at k2; omega
  clear hs hr0 hb0
  obtain ⟨r, hr⟩ : ∃ r, fofK k fs nm = r := ⟨_, rfl⟩
  have HR := Lib.hid hr
  rw [hr]
  clear hr
  go_enter Try.func27, Try.ntmps27
  go_upto_region 1 with (fail)
  refine wp_vr2 fun W hbW hR1 hR2 => ?_
  have a0 : W.cell? ⟨w.heap.size, 0, none⟩ = some (.int .i64 k) := hR1.cell 0
  have a4 : W.cell? ⟨w.heap.size, 4, none⟩ = some (.slice af fs.length cf) := hR1.cell 4
  have HR2 := Lib.hid hR2
  have HBW := Lib.hid hbW
  clear hR1 hR2 hbW
  by_cases hk : k = 5
  · have HL0 : Hid (r = lk (fs.drop 0) nm) := Lib.hid (by rw [← HR.out]; show (if k = 5 then lk fs nm else none) = _; rw [if_pos hk, List.drop_zero])
    subst hk
    have hRA : ∃ A, RH W (w.heap.size + 1) A 25 ∧ A.size = 5 := ⟨_, HR2.out, rfl⟩
    have HRA := Lib.hid hRA
    clear HR HR2 hRA
    go_wp2_with fail
    go_loopw [14] (fun i wr => ∃ q : Nat, q ≤ fs.length ∧ i = .int .i64 (q : Int) ∧ Hid (r = lk (fs.drop q) nm) ∧ Hid (∃ A, RH wr (w.heap.size + 1) A 25 ∧ A.size = 5) ∧ Hid (Below w.heap.size w wr)) (fun i _ => fs.length - (intOf i).toNat)
    case atStart => exact ⟨0, Nat.zero_le _, rfl, HL0, HRA, HBW⟩
    case round =>
      clear HL0 HRA HBW
      obtain ⟨q, hq, rfl, HL, HA, HW⟩ := hrel
      generalize hXX : wr = X at *
      clear hXX a0 a4
      by_cases hlt : q < fs.length
      · obtain ⟨f, hfu⟩ : ∃ f, fs[q]? = some f := ⟨_, List.getElem?_eq_getElem hlt⟩
        obtain ⟨cy, hcy, hrw0⟩ := All2.get HV.out.2 hfu
        have hry := pe.ok _ _ X (ext_trans HB0.out HW.out) hrw0
        obtain ⟨p, o, e0, hp0, hcell⟩ := sl_elem (HV.out.1.ext HW.out) (all_len (fun _ _ => RepF.len) HV0.out) (by omega) hcy
        subst e0
        obtain ⟨nm', y⟩ := f
        have hry2 := hry
        simp only [RepF] at hry2
        obtain ⟨cv5, rfl, hnm, hrv⟩ := hry2
        obtain ⟨ky, ny, sy, a1, m1, r1, a2, m2, r2, rfl⟩ := V5 hrv
        have HFU := Lib.hid hfu
        have HNM := Lib.hid hnm
        have HRW := Lib.hid hrv
        have HRF := Lib.hid hrw0
        have HINF := Lib.hid (f_info hry)
        have HONE := Lib.hid (all_arr (RepF.one hry))
        have hqi : (q : Int) < (fs.length : Int) := by omega
        clear hfu hcy hrw0 hry hnm hrv hp0
        go_upto_region 5 with (first | (refine wpList_load_agg rfl _ _ rfl p (o + q * 6) (by rfl) [.string nm', .int .i64 ky, .int .i64 ny, .string sy, .slice a1 m1 r1, .slice a2 m2 r2] (fun j v hj => by rw [Nat.add_assoc]; exact hcell j v hj) _ Try.underlying38 rfl HINF.out ?_) | (refine wpList_store_row rfl _ _ _ rfl X.heap.size #[.string nm', .int .i64 ky, .int .i64 ny, .string sy, .slice a1 m1 r1, .slice a2 m2 r2] rfl rfl _ _ (RH.new _ _ _) HINF.out rfl HONE.out ?_))
        refine wp_stored fun Y hbY hRf => ?_
        have HWY := Lib.hid (ext_trans HW.out hbY)
        have HRFY := Lib.hid hRf
        have f0 : Y.cell? ⟨X.heap.size, 0, none⟩ = some (.string nm') := hRf.cell 0
        have HCS : Hid (∀ (j : Nat) (v : Value), [Value.int .i64 ky, .int .i64 ny, .string sy, .slice a1 m1 r1, .slice a2 m2 r2][j]? = some v → Y.cell? ⟨X.heap.size, 1 + j, none⟩ = some v) := Lib.hid (fun j v hj => by
          rw [hRf.cell, Nat.add_comm]; simpa using hj)
        have HAY : Hid (∃ A, RH Y (w.heap.size + 1) A 25 ∧ A.size = 5) := Lib.hid (by obtain ⟨A, a, b⟩ := HA.out; exact ⟨A, a.ext hbY, b⟩)
        generalize X.heap.size = fb at *
        clear hcell HINF HONE
        have HST : Hid (r = if nm' = nm then some y else lk (fs.drop (q + 1)) nm) := Lib.hid (by rw [HL.out, lk_drop_get HFU.out]; rfl)
        clear hbY hRf HL HA HW
        by_cases he : nm' = nm
        · have hsb := str_yes he
          have HE := Lib.hid he
          have HFR : Hid (r = some y) := Lib.hid (HST.out.trans (if_pos he))
          obtain ⟨A, hA, hAS⟩ := HAY.out
          have HAA := Lib.hid hA
          clear HST HAY hA he
          go_wp2_with (first | (refine wpList_load_agg rfl _ _ rfl fb 1 (by rfl) [.int .i64 ky, .int .i64 ny, .string sy, .slice a1 m1 r1, .slice a2 m2 r2] HCS.out _ Try.underlying25 rfl (v_inf5 ky ny sy (.slice a1 m1 r1) (.slice a2 m2 r2)) ?_) | (refine wpList_store_row rfl _ _ _ rfl (w.heap.size + 1) (vAr ky ny sy (.slice a1 m1 r1) (.slice a2 m2 r2)) rfl rfl _ _ HAA.out (v_inf5 _ _ _ _ _) hAS (v_all5 _ _ _ _ _ _ _ _ _) ?_))
          (try simp only [Exit.inBlock, Exit.then])
          refine bodyPost_ret (v := .tuple #[.agg (vAr ky ny sy (.slice a1 m1 r1) (.slice a2 m2 r2)), .bool true]) (results_row_tmp rfl _ _ _ _ _ _ _ _ rfl (HAA.out.row _) Try.underlying25 rfl (v_inf5 _ _ _ _ _) rfl) rfl ?_
          have hb := below_setRow HWY.out (show w.heap.size ≤ w.heap.size + 1 by omega) (vAr ky ny sy (.slice a1 m1 r1) (.slice a2 m2 r2))
          show FopPost pe nm r w _ _
          rw [HFR.out]
          exact ⟨_, rfl, .inr ⟨y, rfl, by have := HRF.out; rw [HE.out] at this; exact this⟩, hb⟩
        · have hsb := str_no he
          have HL2 : Hid (r = lk (fs.drop (q + 1)) nm) := Lib.hid (HST.out.trans (if_neg he))
          clear HST he
          go_wp2_with fail
          go_roundw
          case rel => exact ⟨q + 1, by omega, by go_num, HL2, HAY, HWY⟩
          case measure => simp [intOf]; omega
      · obtain rfl : q = fs.length := by omega
        have HFR : Hid (r = none) := Lib.hid (by rw [HL.out, List.drop_length]; rfl)
        obtain ⟨A, hA, hAS⟩ := HA.out
        have HAA := Lib.hid hA
        clear HL HA hA
        go_wp2_with (refine wpList_store_row rfl _ _ _ rfl (w.heap.size + 1) (vAr 0 0 eB (.slice none 0 0) (.slice none 0 0)) rfl rfl _ _ HAA.out (v_inf5 _ _ _ _ _) hAS (v_all5 _ _ _ _ _ _ _ _ _) ?_)
        (try simp only [Exit.inBlock, Exit.then])
        refine bodyPost_ret (v := .tuple #[.agg (vAr 0 0 eB (.slice none 0 0) (.slice none 0 0)), .bool false]) (results_row_tmp rfl _ _ _ _ _ _ _ _ rfl (HAA.out.row _) Try.underlying25 rfl (v_inf5 _ _ _ _ _) rfl) rfl ?_
        show FopPost pe nm r w _ _
        rw [HFR.out]
        exact ⟨_, rfl, .inl ⟨rfl, rfl⟩, below_setRow HW.out (by omega) _⟩
  · have HFR : Hid (r = none) := Lib.hid (by rw [← HR.out]; show (if k = 5 then lk fs nm else none) = _; rw [if_neg hk])
    have hkb : (k == 5) = false := by simpa using hk
    clear HR
    go_wp2_with (refine wpList_store_row rfl _ _ _ rfl (w.heap.size + 1) (vAr 0 0 eB (.slice none 0 0) (.slice none 0 0)) rfl rfl _ _ HR2.out (v_inf5 _ _ _ _ _) rfl (v_all5 _ _ _ _ _ _ _ _ _) ?_)
    (try simp only [Exit.inBlock, Exit.then])
    refine bodyPost_ret (v := .tuple #[.agg (vAr 0 0 eB (.slice none 0 0) (.slice none 0 0)), .bool false]) (results_row_tmp rfl _ _ _ _ _ _ _ _ rfl (HR2.out.row _) Try.underlying25 rfl (v_inf5 _ _ _ _ _) rfl) rfl ?_
    show FopPost pe nm r w _ _
    rw [HFR.out]
    exact ⟨_, rfl, .inl ⟨rfl, rfl⟩, below_setRow HBW.out (by omega) _⟩
end Fd
end Go.Proofs.Ytkjgifhklajifaa
namespace Go.Proofs.Ytkjgifhklajifaa
open Go.RowKit
namespace Fd
open _root_.Go.Proofs.Ytkjgifhklajifaa.Nt (RH RH.cell RH.box RH.lt RH.new RH.ext RH.fre RH.set RH.other)
open _root_.Go.Proofs.Ytkjgifhklajifaa.Rw (All2 All2.get All2.length All2.append All2.take All2.drop fl_take wpList_load_agg wp_stored Kept)
theorem less_yes {a b : ByteArray} (h : cmpS a b < 0) : Op.bytesLess a.toList b.toList = true := by
  cases hb : Op.bytesLess a.toList b.toList with
  | true => rfl
  | false =>
    cases hk : (!a.toList == b.toList) with
    | false => have := cmpS_eq hk; omega
    | true => have := cmpS_gt hb hk; omega
theorem less_no {a b : ByteArray} (h : ¬ cmpS a b < 0) : Op.bytesLess a.toList b.toList = false := by
  cases hb : Op.bytesLess a.toList b.toList with
  | false => rfl
  | true => have := cmpS_lt hb; omega
/-- putting replaces -/
theorem put_drop {fs : List F} (hs : Srt fs) (nm : ByteArray) (y : V) : putF nm y (dropF nm fs) = putF nm y fs := by
  refine srt_ext (srt_put (srt_drop hs nm) _ _) (srt_put hs _ _) (fun m => ?_)
  rw [lk_put (srt_drop hs nm), lk_put hs, lk_drop]
  by_cases h : nm = m
  · rw [if_pos h, if_pos h]
  · rw [if_neg h, if_neg h, if_neg h]
theorem find_stop {l : List F} {nm : ByteArray} {i : Nat} (hs : Srt l) (hn : ∀ f ∈ l, nmF f ≠ nm) (hi : i ≤ l.length) (hlo : ∀ t f, t < i → l[t]? = some f → cmpS (nmF f) nm < 0) (hst : ∀ f, l[i]? = some f → ¬ cmpS (nmF f) nm < 0) : FindAt l nm i false where
  le := hi
  lo := hlo
  hi := fun t f ht hf hlt => by
    obtain ⟨h1, _⟩ := List.getElem?_eq_some_iff.1 hf
    have h2 : l[i]? = some (l[i]'(by omega)) := List.getElem?_eq_getElem (by omega)
    exact hst _ h2 (lt_mono hs ht h2 hf hlt)
  is := ⟨fun h => (by cases h), fun ⟨f, h1, h2⟩ => absurd h2 (hn f (List.mem_of_getElem? h1))⟩
theorem OwnP.ownN {N : Nat} {w0 w : World} {p : PF w0} {l : List F} {v : Value} {E : List (List Value)} {LN : Nat} (h : OwnP p N w l v E) (hl : l.length = LN) : w.ownsRow N 38 6 v LN E.flatten := hl ▸ h.own
theorem OwnP.ins {N : Nat} {w0 w w' : World} {p : PF w0} {l : List F} {v v' : Value} {E : List (List Value)} {i LN : Nat} {m : F} {c : List Value} (h : OwnP p N w l v E) (hm : p.P m c) (hi : i ≤ LN) (hl : l.length = LN)
    (ho : w'.ownsRow N 38 6 v' (LN + 1) (E.flatten.take (i * 6) ++ c ++ E.flatten.drop (i * 6)))   : OwnP p N w' (l.take i ++ m :: l.drop i) v' (E.take i ++ c :: E.drop i) := by
  rw [(fl_take h.six i).1, (fl_take h.six i).2] at ho
  refine ⟨?_, All2.append (h.rep.take i) ⟨hm, h.rep.drop i⟩⟩
  rw [show (l.take i ++ m :: l.drop i).length = LN + 1 by rw [List.length_append, List.length_cons, List.length_take, List.length_drop]; omega]
  have e : (E.take i ++ c :: E.drop i).flatten = (E.take i).flatten ++ c ++ (E.drop i).flatten := by simp
  rw [e]; exact ho
set_option maxRecDepth 100000 in
set_option maxHeartbeats 16000000 in
theorem putP_at (k n : Int) (s : ByteArray) (ai : Option Addr) (ni ci : Nat) (fs : List F) (af : Option Addr) (cf : Nat) (EF : List (List Value)) (nm : ByteArray) (y : V) (cy : List Value) (w : World) (pe : PF w) (hs : Sl w (.slice af fs.length cf) fs.length EF.flatten) (hr : All2 pe.P fs EF)
    (hy : RepV w y cy) (hyp : pe.P (.mk nm y) (.string nm :: cy)) (hsr : Srt fs) (hl : fs.length ≤ 10000) (hnm : nm.size ≤ maxLen) :
    Calls Try.prog 28 #[.agg #[.int .i64 k, .int .i64 n, .string s, .slice ai ni ci, .slice af fs.length cf], .string nm, .agg cy.toArray] w (DropQ pe k n s (.slice ai ni ci) (putF nm y fs) w) := by
  obtain ⟨ky, ny, sy, b1, b2, b3, b4, b5, b6, rfl⟩ := V5 hy
  have HV := Lib.hid (And.intro hs hr)
  have HY := Lib.hid hy
  have HYP := Lib.hid hyp
  have HNM := Lib.hid hnm
  have hlg : (dropF nm fs).length ≤ 10000 := Nat.le_trans (dropF_len nm fs) hl
  have hrt : putF nm y fs = putF nm y (dropF nm fs) := (put_drop hsr nm y).symm
  have hds : Srt (dropF nm fs) := srt_drop hsr nm
  have hdn : ∀ f ∈ dropF nm fs, nmF f ≠ nm := fun f hf => by
    have := (List.mem_filter.1 hf).2
    simpa using this
  obtain ⟨g, hg⟩ : ∃ g, dropF nm fs = g := ⟨_, rfl⟩
  have HG := Lib.hid hg
  rw [hg] at hlg hrt hds hdn
  rw [hrt]
  have HSR := Lib.hid (And.intro hds hdn)
  clear hs hr hy hyp hnm hsr hg hrt hds hdn
  go_enter Try.func28, Try.ntmps28
  go_upto_region 1 with (fail)
  refine wp_vr3 fun W hbW hR1 hR2 hR3 => ?_
  obtain ⟨a0, a1, a2, a3, a4⟩ := va5 hR1
  have HR1 := Lib.hid hR1
  have HR2 := Lib.hid hR2
  have HR3 := Lib.hid hR3
  have HBW := Lib.hid hbW
  have HDR := Lib.hid (dropP_at pe k n s ai ni ci fs af cf EF nm W hbW (HV.out.1.ext hbW) HV.out.2 (by omega))
  rw [HG.out] at HDR
  clear hR1 hR2 hR3 hbW
  go_wp2_with fail
  refine HDR.out.mono ?_
  rintro e w1 ⟨a, c, E, rfl, hO, hb1⟩
  have HO1 := Lib.hid hO
  have HB1 := Lib.hid (ext_trans HBW.out hb1)
  have HQ1 := Lib.hid (HR1.out.ext hb1)
  have HQ2 := Lib.hid (HR2.out.ext hb1)
  have HQ3 := Lib.hid (HR3.out.ext hb1)
  have HWN : Hid (w.heap.size + 2 < W.heap.size ∧ W.heap.size ≤ w1.heap.size) := Lib.hid ⟨HR3.out.lt, hb1.size⟩
  clear a0 a1 a2 a3 a4 hO hb1 HR1 HR2 HR3 HDR
  obtain ⟨LN, hLN⟩ : ∃ LN, g.length = LN := ⟨_, rfl⟩
  have HLN := Lib.hid hLN
  rw [hLN] at HO1 hlg ⊢
  clear hLN
  go_upto_region 2 with (refine wpList_store_row rfl _ _ _ rfl w.heap.size (vAr k n s (.slice ai ni ci) (.slice a LN c)) rfl rfl _ _ HQ1.out (v_inf5 _ _ _ _ _) rfl (v_all5 _ _ _ _ _ _ _ _ _) ?_)
  have HP1 : Hid (RH (w1.setRow w.heap.size (vAr k n s (.slice ai ni ci) (.slice a LN c))) w.heap.size (vAr k n s (.slice ai ni ci) (.slice a LN c)) 25) := Lib.hid (HQ1.out.row _)
  have HP2 : Hid (RH (w1.setRow w.heap.size (vAr k n s (.slice ai ni ci) (.slice a LN c))) (w.heap.size + 1) (vAr ky ny sy (.slice b1 b2 b3) (.slice b4 b5 b6)) 25) := Lib.hid (HQ2.out.row_other (by omega) _)
  have HP3 : Hid (∃ A, RH (w1.setRow w.heap.size (vAr k n s (.slice ai ni ci) (.slice a LN c))) (w.heap.size + 2) A 25 ∧ A.size = 5) := Lib.hid ⟨_, HQ3.out.row_other (by omega) _, rfl⟩
  have HO2 : Hid (OwnP pe W.heap.size (w1.setRow w.heap.size (vAr k n s (.slice ai ni ci) (.slice a LN c))) g (.slice a LN c) E) := Lib.hid (HO1.out.kept (fun q9 h1 h2 => setRow_other _ _ _ _ (by have := HWN.out; omega)))
  have HB2 : Hid (Below w.heap.size w (w1.setRow w.heap.size (vAr k n s (.slice ai ni ci) (.slice a LN c)))) := Lib.hid (below_setRow HB1.out (Nat.le_refl _) _)
  have HWS : Hid (W.heap.size ≤ (w1.setRow w.heap.size (vAr k n s (.slice ai ni ci) (.slice a LN c))).heap.size) := Lib.hid (by rw [setRow_size]; exact HWN.out.2)
  clear HO1 HB1 HQ1 HQ2 HQ3
  generalize w1.setRow w.heap.size (vAr k n s (.slice ai ni ci) (.slice a LN c)) = X at *
  have d4 : X.cell? ⟨w.heap.size, 4, none⟩ = some (.slice a LN c) := HP1.out.cell 4
  have hll : (LN : Int) ≤ 10000 := by omega
  go_wp2_with fail
  go_loop [7] (fun i => ∃ q : Nat, q ≤ LN ∧ i = .int .i64 (q : Int) ∧ Hid (∀ t f, t < q → g[t]? = some f → cmpS (nmF f) nm < 0)) (fun i => LN - (intOf i).toNat)
  case atStart => exact ⟨0, Nat.zero_le _, rfl, Lib.hid (fun t f ht => absurd ht (Nat.not_lt_zero _))⟩
  case round =>
    obtain ⟨q, hq, rfl, HQ⟩ := hrel
    by_cases hlt : q < LN
    · obtain ⟨f, hfu⟩ : ∃ f, g[q]? = some f := ⟨_, List.getElem?_eq_getElem (by have := HLN.out; omega)⟩
      obtain ⟨cf', hcf', hrf⟩ := All2.get HO2.out.rep0 hfu
      obtain ⟨p, o, e0, hp0, hcell⟩ := sl_elem (by have := HO2.out.sl; rw [HLN.out] at this; exact this) HO2.out.six (by omega) hcf'
      subst e0
      have e9 : X.cell? ⟨p, o + q * 6, none⟩ = some (.string (nmF f)) := by
        obtain ⟨gn, gx⟩ := f
        simp only [RepF] at hrf
        obtain ⟨cw, rfl, _, _⟩ := hrf
        exact hcell 0 _ rfl
      have hqi : (q : Int) < (LN : Int) := by omega
      have hq0 : (0 : Int) ≤ (q : Int) := Int.natCast_nonneg _
      have HFU := Lib.hid hfu
      clear hcell hp0 hrf hcf' hfu
      by_cases hc : cmpS (nmF f) nm < 0
      · have hlb := less_yes hc
        have HQ2 : Hid (∀ t f, t < q + 1 → g[t]? = some f → cmpS (nmF f) nm < 0) := Lib.hid (fun t f' ht hf' => by
          rcases Nat.lt_succ_iff_lt_or_eq.1 ht with h | h
          · exact HQ.out t f' h hf'
          · subst h
            rw [HFU.out] at hf'
            cases hf'
            exact hc)
        clear HQ
        go_wp2_with fail
        go_round
        case rel => exact ⟨q + 1, by omega, by go_num, HQ2⟩
        case measure => simp [intOf]; omega
      · have hlb := less_no hc
        have HFA : Hid (FindAt g nm q false) := Lib.hid (find_stop HSR.out.1 HSR.out.2 (by have := HLN.out; omega) HQ.out (fun f' hf' => by rw [HFU.out] at hf'; cases hf'; exact hc))
        have hqi9 : (q : Int) ≤ 10000 := by omega
        have HLE : Hid (q ≤ LN) := Lib.hid (by omega)
        obtain ⟨y0, y1, y2, y3, y4⟩ := va5 HP2.out
        have HRF : Hid (RepF w (.mk nm y) [.string nm, .int .i64 ky, .int .i64 ny, .string sy, .slice b1 b2 b3, .slice b4 b5 b6]) := Lib.hid (by simp only [RepF]; exact ⟨_, rfl, HNM.out, HY.out⟩)
        have hhl : LN ≤ 100000 := by omega
        obtain ⟨A, hA, hAS⟩ := HP3.out
        have HAA := Lib.hid hA
        have HPT : Hid (putF nm y g = g.take q ++ .mk nm y :: g.drop q) := Lib.hid ((HFA.out.gone HSR.out.1).2.2 y)
        clear HQ hA
        go_wp2_with (first
          | (go_at_call 23; refine (insF_at _ W.heap.size (.slice (some ⟨p, o, none⟩) LN c) LN q E.flatten ((HO2.out.ext (ext_alloc _ _)).ownN HLN.out) HLE.out _ _ [.string nm, .int .i64 ky, .int .i64 ny, .string sy, .slice b1 b2 b3, .slice b4 b5 b6] rfl 38 (RH.new _ _ _) (RepF.one HRF.out) HO2.out.one (fun e9 => by have h9 := (Rw.own_base HO2.out.own _ e9).2; omega) hhl (Nat.le_trans HWS.out (ext_alloc _ _).size)).mono ?_; rintro e w7 ⟨v7, rfl, ho7, hg7, hv7⟩; have hG7 := OwnP.ins HO2.out HYP.out HLE.out HLN.out ho7; obtain ⟨a7, c7, e7⟩ := hG7.shape; generalize hLN7 : (g.take q ++ F.mk nm y :: g.drop q).length = LN7 at e7; subst e7; have HG7 := Lib.hid hG7; have HLN7 := Lib.hid hLN7; have HRG := Lib.hid hg7; have HP7 := Lib.hid (Rw.rh_grown (HP1.out.ext (ext_alloc _ _)) hg7 (fun e => by have h9 := (Rw.own_base HO2.out.own _ e.symm).1; have := HWN.out; omega)); have HAA7 : Hid (RH (w7.setCell ⟨w.heap.size, 4, none⟩ (.slice a7 LN7 c7)) (w.heap.size + 2) A 25) := Lib.hid ((Rw.rh_grown (HAA.out.ext (ext_alloc _ _)) hg7 (fun e => by have h9 := (Rw.own_base HO2.out.own _ e.symm).1; have := HWN.out; omega)).other (p := ⟨w.heap.size, 4, none⟩) (by simp) _); have HRD7 : Hid (RH (w7.setCell ⟨w.heap.size, 4, none⟩ (.slice a7 LN7 c7)) w.heap.size (vAr k n s (.slice ai ni ci) (.slice a7 LN7 c7)) 25) := Lib.hid (HP7.out.set 4 _); have z4 : w7.cell? ⟨w.heap.size, 4, none⟩ = some (.slice (some ⟨p, o, none⟩) LN c) := HP7.out.cell 4; have hz4 := HP7.out.fre 4; clear ho7 hg7 hv7 hG7 hLN7)
          | (refine wpList_load_agg rfl _ _ rfl w.heap.size 0 (by rfl) [.int .i64 k, .int .i64 n, .string s, .slice ai ni ci, .slice a7 LN7 c7] (vAr_cell HRD7.out) _ Try.underlying25 rfl (v_inf5 k n s (.slice ai ni ci) (.slice a7 LN7 c7)) ?_)
          | (refine wpList_store_row rfl _ _ _ rfl (w.heap.size + 2) (vAr k n s (.slice ai ni ci) (.slice a7 LN7 c7)) rfl rfl _ _ HAA7.out (v_inf5 _ _ _ _ _) hAS (v_all5 _ _ _ _ _ _ _ _ _) ?_))
        (try simp only [Exit.inBlock, Exit.then])
        refine bodyPost_ret (v := .agg (vAr k n s (.slice ai ni ci) (.slice a7 LN7 c7))) (results_cell_row rfl _ _ _ _ _ _ _ rfl (HAA7.out.row _) Try.underlying25 rfl (v_inf5 _ _ _ _ _)) rfl ?_
        have hb7 : Below w.heap.size w w7 := (ext_trans HB2.out (ext_alloc _ _)).grown HRG.out (Nat.le_trans HB2.out.size (ext_alloc _ _).size) (fun q9 h9 => by have h8 := (Rw.own_base HO2.out.own q9 h9).1; have := HWN.out; omega)
        have hbZ := below_setRow (hb7.setCell (p := ⟨w.heap.size, 4, none⟩) (Nat.le_refl _) (.slice a7 LN7 c7)) (show w.heap.size ≤ w.heap.size + 2 by omega) (vAr k n s (.slice ai ni ci) (.slice a7 LN7 c7))
        have hK : Kept W.heap.size w7 ((w7.setCell ⟨w.heap.size, 4, none⟩ (.slice a7 LN7 c7)).setRow (w.heap.size + 2) (vAr k n s (.slice ai ni ci) (.slice a7 LN7 c7))) := fun q9 h3 h4 =>
          (setRow_other _ _ _ _ (by have := HWN.out; omega)).trans (Rw.kept_set (N := W.heap.size) (fun _ _ _ => rfl) (show w.heap.size < W.heap.size by have := HWN.out; omega) q9 h3 h4)
        show DropQ pe k n s (.slice ai ni ci) (putF nm y g) w _ _
        rw [HPT.out]
        have h7 := HLN7.out
        subst h7
        exact ⟨a7, c7, _, rfl, (HG7.out.kept hK).mono (by have := HWN.out; omega), hbZ⟩
    · have hqe : LN = q := by omega
      subst hqe
      have HFA : Hid (FindAt g nm LN false) := Lib.hid (find_stop HSR.out.1 HSR.out.2 (by have := HLN.out; omega) HQ.out (fun f' hf' => absurd (List.getElem?_eq_some_iff.1 hf').1 (by have := HLN.out; omega)))
      have hqi9 : (LN : Int) ≤ 10000 := by omega
      have HLE : Hid (LN ≤ LN) := Lib.hid (by omega)
      obtain ⟨y0, y1, y2, y3, y4⟩ := va5 HP2.out
      have HRF : Hid (RepF w (.mk nm y) [.string nm, .int .i64 ky, .int .i64 ny, .string sy, .slice b1 b2 b3, .slice b4 b5 b6]) := Lib.hid (by simp only [RepF]; exact ⟨_, rfl, HNM.out, HY.out⟩)
      have hhl : LN ≤ 100000 := by omega
      obtain ⟨A, hA, hAS⟩ := HP3.out
      have HAA := Lib.hid hA
      have HPT : Hid (putF nm y g = g.take LN ++ .mk nm y :: g.drop LN) := Lib.hid ((HFA.out.gone HSR.out.1).2.2 y)
      clear HQ hA
      go_wp2_with (first
        | (go_at_call 23; refine (insF_at _ W.heap.size (.slice a LN c) LN LN E.flatten ((HO2.out.ext (ext_alloc _ _)).ownN HLN.out) HLE.out _ _ [.string nm, .int .i64 ky, .int .i64 ny, .string sy, .slice b1 b2 b3, .slice b4 b5 b6] rfl 38 (RH.new _ _ _) (RepF.one HRF.out) HO2.out.one (fun e9 => by have h9 := (Rw.own_base HO2.out.own _ e9).2; omega) hhl (Nat.le_trans HWS.out (ext_alloc _ _).size)).mono ?_; rintro e w7 ⟨v7, rfl, ho7, hg7, hv7⟩; have hG7 := OwnP.ins HO2.out HYP.out HLE.out HLN.out ho7; obtain ⟨a7, c7, e7⟩ := hG7.shape; generalize hLN7 : (g.take LN ++ F.mk nm y :: g.drop LN).length = LN7 at e7; subst e7; have HG7 := Lib.hid hG7; have HLN7 := Lib.hid hLN7; have HRG := Lib.hid hg7; have HP7 := Lib.hid (Rw.rh_grown (HP1.out.ext (ext_alloc _ _)) hg7 (fun e => by have h9 := (Rw.own_base HO2.out.own _ e.symm).1; have := HWN.out; omega)); have HAA7 : Hid (RH (w7.setCell ⟨w.heap.size, 4, none⟩ (.slice a7 LN7 c7)) (w.heap.size + 2) A 25) := Lib.hid ((Rw.rh_grown (HAA.out.ext (ext_alloc _ _)) hg7 (fun e => by have h9 := (Rw.own_base HO2.out.own _ e.symm).1; have := HWN.out; omega)).other (p := ⟨w.heap.size, 4, none⟩) (by simp) _); have HRD7 : Hid (RH (w7.setCell ⟨w.heap.size, 4, none⟩ (.slice a7 LN7 c7)) w.heap.size (vAr k n s (.slice ai ni ci) (.slice a7 LN7 c7)) 25) := Lib.hid (HP7.out.set 4 _); have z4 : w7.cell? ⟨w.heap.size, 4, none⟩ = some (.slice a LN c) := HP7.out.cell 4; have hz4 := HP7.out.fre 4; clear ho7 hg7 hv7 hG7 hLN7)
        | (refine wpList_load_agg rfl _ _ rfl w.heap.size 0 (by rfl) [.int .i64 k, .int .i64 n, .string s, .slice ai ni ci, .slice a7 LN7 c7] (vAr_cell HRD7.out) _ Try.underlying25 rfl (v_inf5 k n s (.slice ai ni ci) (.slice a7 LN7 c7)) ?_)
        | (refine wpList_store_row rfl _ _ _ rfl (w.heap.size + 2) (vAr k n s (.slice ai ni ci) (.slice a7 LN7 c7)) rfl rfl _ _ HAA7.out (v_inf5 _ _ _ _ _) hAS (v_all5 _ _ _ _ _ _ _ _ _) ?_))
      (try simp only [Exit.inBlock, Exit.then])
      refine bodyPost_ret (v := .agg (vAr k n s (.slice ai ni ci) (.slice a7 LN7 c7))) (results_cell_row rfl _ _ _ _ _ _ _ rfl (HAA7.out.row _) Try.underlying25 rfl (v_inf5 _ _ _ _ _)) rfl ?_
      have hb7 : Below w.heap.size w w7 := (ext_trans HB2.out (ext_alloc _ _)).grown HRG.out (Nat.le_trans HB2.out.size (ext_alloc _ _).size) (fun q9 h9 => by have h8 := (Rw.own_base HO2.out.own q9 h9).1; have := HWN.out; omega)
      have hbZ := below_setRow (hb7.setCell (p := ⟨w.heap.size, 4, none⟩) (Nat.le_refl _) (.slice a7 LN7 c7)) (show w.heap.size ≤ w.heap.size + 2 by omega) (vAr k n s (.slice ai ni ci) (.slice a7 LN7 c7))
      have hK : Kept W.heap.size w7 ((w7.setCell ⟨w.heap.size, 4, none⟩ (.slice a7 LN7 c7)).setRow (w.heap.size + 2) (vAr k n s (.slice ai ni ci) (.slice a7 LN7 c7))) := fun q9 h3 h4 =>
        (setRow_other _ _ _ _ (by have := HWN.out; omega)).trans (Rw.kept_set (N := W.heap.size) (fun _ _ _ => rfl) (show w.heap.size < W.heap.size by have := HWN.out; omega) q9 h3 h4)
      show DropQ pe k n s (.slice ai ni ci) (putF nm y g) w _ _
      rw [HPT.out]
      have h7 := HLN7.out
      subst h7
      exact ⟨a7, c7, _, rfl, (HG7.out.kept hK).mono (by have := HWN.out; omega), hbZ⟩
end Fd
end Go.Proofs.Ytkjgifhklajifaa
