/- put of the reference. Printed by gen_rwg.py. Plain: how many parts a merged value and a patch have at most; the least patch laid in field by field. No program stands in it. What merged and patched of the reference hold of values while they write their variable. Printed by gen_md.py. -/
import Derived.Test.YtbhcfmdogdaodaaGreatDoorRz26
import Derived.Test.YtbhcfmdogdaodaaGreatDoorRz06
import Derived.Test.YtbhcfmdogdaodaaGreatDoorRz01
import Derived.Test.YtbhcfmdogdaodaaGreatDoorRz14
namespace Go.Proofs.YtbhcfmdogdaodaaGreatDoor
open Go.RowKit
namespace Fd
open _root_.Go.Proofs.YtbhcfmdogdaodaaGreatDoor.Nt (RH RH.cell RH.box RH.lt RH.new RH.ext RH.fre RH.set RH.other)
open _root_.Go.Proofs.YtbhcfmdogdaodaaGreatDoor.Rw (All2 All2.get All2.length All2.append All2.take All2.drop fl_take wpList_load_agg wp_stored Kept)
theorem less_yes {a b : ByteArray} (h : cmpS a b < 0) : Op.bytesLess a.toList b.toList = true := by
  cases hb : Op.bytesLess a.toList b.toList with
  | true => rfl
  | false =>
    cases hk : (!a.toList == b.toList) with
    | false => have := cmpS_eq hk; omega
    | true => have := cmpS_gt hb hk; omega
theorem less_no {a b : ByteArray} (h : ¬ cmpS a b < 0) : Op.bytesLess a.toList b.toList = false := by
  cases hb : Op.bytesLess a.toList b.toList with
  | false => rfl
  | true => have := cmpS_lt hb; omega
/-- putting replaces -/
theorem put_drop {fs : List F} (hs : Srt fs) (nm : ByteArray) (y : V) : putF nm y (dropF nm fs) = putF nm y fs := by
  refine srt_ext (srt_put (srt_drop hs nm) _ _) (srt_put hs _ _) (fun m => ?_)
  rw [lk_put (srt_drop hs nm), lk_put hs, lk_drop]
  by_cases h : nm = m
  · rw [if_pos h, if_pos h]
  · rw [if_neg h, if_neg h, if_neg h]
theorem find_stop {l : List F} {nm : ByteArray} {i : Nat} (hs : Srt l) (hn : ∀ f ∈ l, nmF f ≠ nm) (hi : i ≤ l.length) (hlo : ∀ t f, t < i → l[t]? = some f → cmpS (nmF f) nm < 0) (hst : ∀ f, l[i]? = some f → ¬ cmpS (nmF f) nm < 0) : FindAt l nm i false where
  le := hi
  lo := hlo
  hi := fun t f ht hf hlt => by
    obtain ⟨h1, _⟩ := List.getElem?_eq_some_iff.1 hf
    have h2 : l[i]? = some (l[i]'(by omega)) := List.getElem?_eq_getElem (by omega)
    exact hst _ h2 (lt_mono hs ht h2 hf hlt)
  is := ⟨fun h => (by cases h), fun ⟨f, h1, h2⟩ => absurd h2 (hn f (List.mem_of_getElem? h1))⟩
theorem OwnP.ownN {N : Nat} {w0 w : World} {p : PF w0} {l : List F} {v : Value} {E : List (List Value)} {LN : Nat} (h : OwnP p N w l v E) (hl : l.length = LN) : w.ownsRow N 54 6 v LN E.flatten := hl ▸ h.own
theorem OwnP.ins {N : Nat} {w0 w w' : World} {p : PF w0} {l : List F} {v v' : Value} {E : List (List Value)} {i LN : Nat} {m : F} {c : List Value} (h : OwnP p N w l v E) (hm : p.P m c) (hi : i ≤ LN) (hl : l.length = LN)
    (ho : w'.ownsRow N 54 6 v' (LN + 1) (E.flatten.take (i * 6) ++ c ++ E.flatten.drop (i * 6)))   : OwnP p N w' (l.take i ++ m :: l.drop i) v' (E.take i ++ c :: E.drop i) := by
  rw [(fl_take h.six i).1, (fl_take h.six i).2] at ho
  refine ⟨?_, All2.append (h.rep.take i) ⟨hm, h.rep.drop i⟩⟩
  rw [show (l.take i ++ m :: l.drop i).length = LN + 1 by rw [List.length_append, List.length_cons, List.length_take, List.length_drop]; omega]
  have e : (E.take i ++ c :: E.drop i).flatten = (E.take i).flatten ++ c ++ (E.drop i).flatten := by simp
  rw [e]; exact ho
set_option maxRecDepth 100000 in
set_option maxHeartbeats 16000000 in
theorem putP_at (k n : Int) (s : ByteArray) (ai : Option Addr) (ni ci : Nat) (fs : List F) (af : Option Addr) (cf : Nat) (EF : List (List Value)) (nm : ByteArray) (y : V) (cy : List Value) (w : World) (pe : PF w) (hs : Sl w (.slice af fs.length cf) fs.length EF.flatten) (hr : All2 pe.P fs EF)
    (hy : RepV w y cy) (hyp : pe.P (.mk nm y) (.string nm :: cy)) (hsr : Srt fs) (hl : fs.length ≤ 10000) (hnm : nm.size ≤ maxLen) :
    Calls Tryz.prog 48 #[.agg #[.int .i64 k, .int .i64 n, .string s, .slice ai ni ci, .slice af fs.length cf], .string nm, .agg cy.toArray] w (DropQ pe k n s (.slice ai ni ci) (putF nm y fs) w) := by
  obtain ⟨ky, ny, sy, b1, b2, b3, b4, b5, b6, rfl⟩ := V5 hy
  have HV := Lib.hid (And.intro hs hr)
  have HY := Lib.hid hy
  have HYP := Lib.hid hyp
  have HNM := Lib.hid hnm
  have hlg : (dropF nm fs).length ≤ 10000 := Nat.le_trans (dropF_len nm fs) hl
  have hrt : putF nm y fs = putF nm y (dropF nm fs) := (put_drop hsr nm y).symm
  have hds : Srt (dropF nm fs) := srt_drop hsr nm
  have hdn : ∀ f ∈ dropF nm fs, nmF f ≠ nm := fun f hf => by
    have := (List.mem_filter.1 hf).2
    simpa using this
  obtain ⟨g, hg⟩ : ∃ g, dropF nm fs = g := ⟨_, rfl⟩
  have HG := Lib.hid hg
  rw [hg] at hlg hrt hds hdn
  rw [hrt]
  have HSR := Lib.hid (And.intro hds hdn)
  clear hs hr hy hyp hnm hsr hg hrt hds hdn
  go_enter Tryz.func48, Tryz.ntmps48
  go_upto_region 1 with (fail)
  refine wp_vr3 fun W hbW hR1 hR2 hR3 => ?_
  obtain ⟨a0, a1, a2, a3, a4⟩ := va5 hR1
  have HR1 := Lib.hid hR1
  have HR2 := Lib.hid hR2
  have HR3 := Lib.hid hR3
  have HBW := Lib.hid hbW
  have HDR := Lib.hid (dropP_at pe k n s ai ni ci fs af cf EF nm W hbW (HV.out.1.ext hbW) HV.out.2 (by omega))
  rw [HG.out] at HDR
  clear hR1 hR2 hR3 hbW
  go_wp2_with fail
  refine HDR.out.mono ?_
  rintro e w1 ⟨a, c, E, rfl, hO, hb1⟩
  have HO1 := Lib.hid hO
  have HB1 := Lib.hid (ext_trans HBW.out hb1)
  have HQ1 := Lib.hid (HR1.out.ext hb1)
  have HQ2 := Lib.hid (HR2.out.ext hb1)
  have HQ3 := Lib.hid (HR3.out.ext hb1)
  have HWN : Hid (w.heap.size + 2 < W.heap.size ∧ W.heap.size ≤ w1.heap.size) := Lib.hid ⟨HR3.out.lt, hb1.size⟩
  clear a0 a1 a2 a3 a4 hO hb1 HR1 HR2 HR3 HDR
  obtain ⟨LN, hLN⟩ : ∃ LN, g.length = LN := ⟨_, rfl⟩
  have HLN := Lib.hid hLN
  rw [hLN] at HO1 hlg ⊢
  clear hLN
  go_upto_region 2 with (refine wpList_store_row rfl _ _ _ rfl w.heap.size (vAr k n s (.slice ai ni ci) (.slice a LN c)) rfl rfl _ _ HQ1.out (v_inf5 _ _ _ _ _) rfl (v_all5 _ _ _ _ _ _ _ _ _) ?_)
  have HP1 : Hid (RH (w1.setRow w.heap.size (vAr k n s (.slice ai ni ci) (.slice a LN c))) w.heap.size (vAr k n s (.slice ai ni ci) (.slice a LN c)) 25) := Lib.hid (HQ1.out.row _)
  have HP2 : Hid (RH (w1.setRow w.heap.size (vAr k n s (.slice ai ni ci) (.slice a LN c))) (w.heap.size + 1) (vAr ky ny sy (.slice b1 b2 b3) (.slice b4 b5 b6)) 25) := Lib.hid (HQ2.out.row_other (by omega) _)
  have HP3 : Hid (∃ A, RH (w1.setRow w.heap.size (vAr k n s (.slice ai ni ci) (.slice a LN c))) (w.heap.size + 2) A 25 ∧ A.size = 5) := Lib.hid ⟨_, HQ3.out.row_other (by omega) _, rfl⟩
  have HO2 : Hid (OwnP pe W.heap.size (w1.setRow w.heap.size (vAr k n s (.slice ai ni ci) (.slice a LN c))) g (.slice a LN c) E) := Lib.hid (HO1.out.kept (fun q9 h1 h2 => setRow_other _ _ _ _ (by have := HWN.out; omega)))
  have HB2 : Hid (Below w.heap.size w (w1.setRow w.heap.size (vAr k n s (.slice ai ni ci) (.slice a LN c)))) := Lib.hid (below_setRow HB1.out (Nat.le_refl _) _)
  have HWS : Hid (W.heap.size ≤ (w1.setRow w.heap.size (vAr k n s (.slice ai ni ci) (.slice a LN c))).heap.size) := Lib.hid (by rw [setRow_size]; exact HWN.out.2)
  clear HO1 HB1 HQ1 HQ2 HQ3
  generalize w1.setRow w.heap.size (vAr k n s (.slice ai ni ci) (.slice a LN c)) = X at *
  have d4 : X.cell? ⟨w.heap.size, 4, none⟩ = some (.slice a LN c) := HP1.out.cell 4
  have hll : (LN : Int) ≤ 10000 := by omega
  go_wp2_with fail
  go_loop [7] (fun i => ∃ q : Nat, q ≤ LN ∧ i = .int .i64 (q : Int) ∧ Hid (∀ t f, t < q → g[t]? = some f → cmpS (nmF f) nm < 0)) (fun i => LN - (intOf i).toNat)
  case atStart => exact ⟨0, Nat.zero_le _, rfl, Lib.hid (fun t f ht => absurd ht (Nat.not_lt_zero _))⟩
  case round =>
    obtain ⟨q, hq, rfl, HQ⟩ := hrel
    by_cases hlt : q < LN
    · obtain ⟨f, hfu⟩ : ∃ f, g[q]? = some f := ⟨_, List.getElem?_eq_getElem (by have := HLN.out; omega)⟩
      obtain ⟨cf', hcf', hrf⟩ := All2.get HO2.out.rep0 hfu
      obtain ⟨p, o, e0, hp0, hcell⟩ := sl_elem (by have := HO2.out.sl; rw [HLN.out] at this; exact this) HO2.out.six (by omega) hcf'
      subst e0
      have e9 : X.cell? ⟨p, o + q * 6, none⟩ = some (.string (nmF f)) := by
        obtain ⟨gn, gx⟩ := f
        simp only [RepF] at hrf
        obtain ⟨cw, rfl, _, _⟩ := hrf
        exact hcell 0 _ rfl
      have hqi : (q : Int) < (LN : Int) := by omega
      have hq0 : (0 : Int) ≤ (q : Int) := Int.natCast_nonneg _
      have HFU := Lib.hid hfu
      clear hcell hp0 hrf hcf' hfu
      by_cases hc : cmpS (nmF f) nm < 0
      · have hlb := less_yes hc
        have HQ2 : Hid (∀ t f, t < q + 1 → g[t]? = some f → cmpS (nmF f) nm < 0) := Lib.hid (fun t f' ht hf' => by
          rcases Nat.lt_succ_iff_lt_or_eq.1 ht with h | h
          · exact HQ.out t f' h hf'
          · subst h
            rw [HFU.out] at hf'
            cases hf'
            exact hc)
        clear HQ
        go_wp2_with fail
        go_round
        case rel => exact ⟨q + 1, by omega, by go_num, HQ2⟩
        case measure => simp [intOf]; omega
      · have hlb := less_no hc
        have HFA : Hid (FindAt g nm q false) := Lib.hid (find_stop HSR.out.1 HSR.out.2 (by have := HLN.out; omega) HQ.out (fun f' hf' => by rw [HFU.out] at hf'; cases hf'; exact hc))
        have hqi9 : (q : Int) ≤ 10000 := by omega
        have HLE : Hid (q ≤ LN) := Lib.hid (by omega)
        obtain ⟨y0, y1, y2, y3, y4⟩ := va5 HP2.out
        have HRF : Hid (RepF w (.mk nm y) [.string nm, .int .i64 ky, .int .i64 ny, .string sy, .slice b1 b2 b3, .slice b4 b5 b6]) := Lib.hid (by simp only [RepF]; exact ⟨_, rfl, HNM.out, HY.out⟩)
        have hhl : LN ≤ 100000 := by omega
        obtain ⟨A, hA, hAS⟩ := HP3.out
        have HAA := Lib.hid hA
        have HPT : Hid (putF nm y g = g.take q ++ .mk nm y :: g.drop q) := Lib.hid ((HFA.out.gone HSR.out.1).2.2 y)
        clear HQ hA
        go_wp2_with (first
          | (go_at_call 67; refine (insF_at _ W.heap.size (.slice (some ⟨p, o, none⟩) LN c) LN q E.flatten ((HO2.out.ext (ext_alloc _ _)).ownN HLN.out) HLE.out _ _ [.string nm, .int .i64 ky, .int .i64 ny, .string sy, .slice b1 b2 b3, .slice b4 b5 b6] rfl 54 (RH.new _ _ _) (RepF.one HRF.out) HO2.out.one (fun e9 => by have h9 := (Rw.own_base HO2.out.own _ e9).2; omega) hhl (Nat.le_trans HWS.out (ext_alloc _ _).size)).mono ?_; rintro e w7 ⟨v7, rfl, ho7, hg7, hv7⟩; have hG7 := OwnP.ins HO2.out HYP.out HLE.out HLN.out ho7; obtain ⟨a7, c7, e7⟩ := hG7.shape; generalize hLN7 : (g.take q ++ F.mk nm y :: g.drop q).length = LN7 at e7; subst e7; have HG7 := Lib.hid hG7; have HLN7 := Lib.hid hLN7; have HRG := Lib.hid hg7; have HP7 := Lib.hid (Rw.rh_grown (HP1.out.ext (ext_alloc _ _)) hg7 (fun e => by have h9 := (Rw.own_base HO2.out.own _ e.symm).1; have := HWN.out; omega)); have HAA7 : Hid (RH (w7.setCell ⟨w.heap.size, 4, none⟩ (.slice a7 LN7 c7)) (w.heap.size + 2) A 25) := Lib.hid ((Rw.rh_grown (HAA.out.ext (ext_alloc _ _)) hg7 (fun e => by have h9 := (Rw.own_base HO2.out.own _ e.symm).1; have := HWN.out; omega)).other (p := ⟨w.heap.size, 4, none⟩) (by simp) _); have HRD7 : Hid (RH (w7.setCell ⟨w.heap.size, 4, none⟩ (.slice a7 LN7 c7)) w.heap.size (vAr k n s (.slice ai ni ci) (.slice a7 LN7 c7)) 25) := Lib.hid (HP7.out.set 4 _); have z4 : w7.cell? ⟨w.heap.size, 4, none⟩ = some (.slice (some ⟨p, o, none⟩) LN c) := HP7.out.cell 4; have hz4 := HP7.out.fre 4; clear ho7 hg7 hv7 hG7 hLN7)
          | (refine wpList_load_agg rfl _ _ rfl w.heap.size 0 (by rfl) [.int .i64 k, .int .i64 n, .string s, .slice ai ni ci, .slice a7 LN7 c7] (vAr_cell HRD7.out) _ Tryz.underlying25 rfl (v_inf5 k n s (.slice ai ni ci) (.slice a7 LN7 c7)) ?_)
          | (refine wpList_store_row rfl _ _ _ rfl (w.heap.size + 2) (vAr k n s (.slice ai ni ci) (.slice a7 LN7 c7)) rfl rfl _ _ HAA7.out (v_inf5 _ _ _ _ _) hAS (v_all5 _ _ _ _ _ _ _ _ _) ?_))
        (try simp only [Exit.inBlock, Exit.then])
        refine bodyPost_ret (v := .agg (vAr k n s (.slice ai ni ci) (.slice a7 LN7 c7))) (results_cell_row rfl _ _ _ _ _ _ _ rfl (HAA7.out.row _) Tryz.underlying25 rfl (v_inf5 _ _ _ _ _)) rfl ?_
        have hb7 : Below w.heap.size w w7 := (ext_trans HB2.out (ext_alloc _ _)).grown HRG.out (Nat.le_trans HB2.out.size (ext_alloc _ _).size) (fun q9 h9 => by have h8 := (Rw.own_base HO2.out.own q9 h9).1; have := HWN.out; omega)
        have hbZ := below_setRow (hb7.setCell (p := ⟨w.heap.size, 4, none⟩) (Nat.le_refl _) (.slice a7 LN7 c7)) (show w.heap.size ≤ w.heap.size + 2 by omega) (vAr k n s (.slice ai ni ci) (.slice a7 LN7 c7))
        have hK : Kept W.heap.size w7 ((w7.setCell ⟨w.heap.size, 4, none⟩ (.slice a7 LN7 c7)).setRow (w.heap.size + 2) (vAr k n s (.slice ai ni ci) (.slice a7 LN7 c7))) := fun q9 h3 h4 =>
          (setRow_other _ _ _ _ (by have := HWN.out; omega)).trans (Rw.kept_set (N := W.heap.size) (fun _ _ _ => rfl) (show w.heap.size < W.heap.size by have := HWN.out; omega) q9 h3 h4)
        show DropQ pe k n s (.slice ai ni ci) (putF nm y g) w _ _
        rw [HPT.out]
        have h7 := HLN7.out
        subst h7
        exact ⟨a7, c7, _, rfl, (HG7.out.kept hK).mono (by have := HWN.out; omega), hbZ⟩
    · have hqe : LN = q := by omega
      subst hqe
      have HFA : Hid (FindAt g nm LN false) := Lib.hid (find_stop HSR.out.1 HSR.out.2 (by have := HLN.out; omega) HQ.out (fun f' hf' => absurd (List.getElem?_eq_some_iff.1 hf').1 (by have := HLN.out; omega)))
      have hqi9 : (LN : Int) ≤ 10000 := by omega
      have HLE : Hid (LN ≤ LN) := Lib.hid (by omega)
      obtain ⟨y0, y1, y2, y3, y4⟩ := va5 HP2.out
      have HRF : Hid (RepF w (.mk nm y) [.string nm, .int .i64 ky, .int .i64 ny, .string sy, .slice b1 b2 b3, .slice b4 b5 b6]) := Lib.hid (by simp only [RepF]; exact ⟨_, rfl, HNM.out, HY.out⟩)
      have hhl : LN ≤ 100000 := by omega
      obtain ⟨A, hA, hAS⟩ := HP3.out
      have HAA := Lib.hid hA
      have HPT : Hid (putF nm y g = g.take LN ++ .mk nm y :: g.drop LN) := Lib.hid ((HFA.out.gone HSR.out.1).2.2 y)
      clear HQ hA
      go_wp2_with (first
        | (go_at_call 67; refine (insF_at _ W.heap.size (.slice a LN c) LN LN E.flatten ((HO2.out.ext (ext_alloc _ _)).ownN HLN.out) HLE.out _ _ [.string nm, .int .i64 ky, .int .i64 ny, .string sy, .slice b1 b2 b3, .slice b4 b5 b6] rfl 54 (RH.new _ _ _) (RepF.one HRF.out) HO2.out.one (fun e9 => by have h9 := (Rw.own_base HO2.out.own _ e9).2; omega) hhl (Nat.le_trans HWS.out (ext_alloc _ _).size)).mono ?_; rintro e w7 ⟨v7, rfl, ho7, hg7, hv7⟩; have hG7 := OwnP.ins HO2.out HYP.out HLE.out HLN.out ho7; obtain ⟨a7, c7, e7⟩ := hG7.shape; generalize hLN7 : (g.take LN ++ F.mk nm y :: g.drop LN).length = LN7 at e7; subst e7; have HG7 := Lib.hid hG7; have HLN7 := Lib.hid hLN7; have HRG := Lib.hid hg7; have HP7 := Lib.hid (Rw.rh_grown (HP1.out.ext (ext_alloc _ _)) hg7 (fun e => by have h9 := (Rw.own_base HO2.out.own _ e.symm).1; have := HWN.out; omega)); have HAA7 : Hid (RH (w7.setCell ⟨w.heap.size, 4, none⟩ (.slice a7 LN7 c7)) (w.heap.size + 2) A 25) := Lib.hid ((Rw.rh_grown (HAA.out.ext (ext_alloc _ _)) hg7 (fun e => by have h9 := (Rw.own_base HO2.out.own _ e.symm).1; have := HWN.out; omega)).other (p := ⟨w.heap.size, 4, none⟩) (by simp) _); have HRD7 : Hid (RH (w7.setCell ⟨w.heap.size, 4, none⟩ (.slice a7 LN7 c7)) w.heap.size (vAr k n s (.slice ai ni ci) (.slice a7 LN7 c7)) 25) := Lib.hid (HP7.out.set 4 _); have z4 : w7.cell? ⟨w.heap.size, 4, none⟩ = some (.slice a LN c) := HP7.out.cell 4; have hz4 := HP7.out.fre 4; clear ho7 hg7 hv7 hG7 hLN7)
        | (refine wpList_load_agg rfl _ _ rfl w.heap.size 0 (by rfl) [.int .i64 k, .int .i64 n, .string s, .slice ai ni ci, .slice a7 LN7 c7] (vAr_cell HRD7.out) _ Tryz.underlying25 rfl (v_inf5 k n s (.slice ai ni ci) (.slice a7 LN7 c7)) ?_)
        | (refine wpList_store_row rfl _ _ _ rfl (w.heap.size + 2) (vAr k n s (.slice ai ni ci) (.slice a7 LN7 c7)) rfl rfl _ _ HAA7.out (v_inf5 _ _ _ _ _) hAS (v_all5 _ _ _ _ _ _ _ _ _) ?_))
      (try simp only [Exit.inBlock, Exit.then])
      refine bodyPost_ret (v := .agg (vAr k n s (.slice ai ni ci) (.slice a7 LN7 c7))) (results_cell_row rfl _ _ _ _ _ _ _ rfl (HAA7.out.row _) Tryz.underlying25 rfl (v_inf5 _ _ _ _ _)) rfl ?_
      have hb7 : Below w.heap.size w w7 := (ext_trans HB2.out (ext_alloc _ _)).grown HRG.out (Nat.le_trans HB2.out.size (ext_alloc _ _).size) (fun q9 h9 => by have h8 := (Rw.own_base HO2.out.own q9 h9).1; have := HWN.out; omega)
      have hbZ := below_setRow (hb7.setCell (p := ⟨w.heap.size, 4, none⟩) (Nat.le_refl _) (.slice a7 LN7 c7)) (show w.heap.size ≤ w.heap.size + 2 by omega) (vAr k n s (.slice ai ni ci) (.slice a7 LN7 c7))
      have hK : Kept W.heap.size w7 ((w7.setCell ⟨w.heap.size, 4, none⟩ (.slice a7 LN7 c7)).setRow (w.heap.size + 2) (vAr k n s (.slice ai ni ci) (.slice a7 LN7 c7))) := fun q9 h3 h4 =>
        (setRow_other _ _ _ _ (by have := HWN.out; omega)).trans (Rw.kept_set (N := W.heap.size) (fun _ _ _ => rfl) (show w.heap.size < W.heap.size by have := HWN.out; omega) q9 h3 h4)
      show DropQ pe k n s (.slice ai ni ci) (putF nm y g) w _ _
      rw [HPT.out]
      have h7 := HLN7.out
      subst h7
      exact ⟨a7, c7, _, rfl, (HG7.out.kept hK).mono (by have := HWN.out; omega), hbZ⟩
end Fd
end Go.Proofs.YtbhcfmdogdaodaaGreatDoor
namespace Go.Proofs.YtbhcfmdogdaodaaGreatDoor
namespace Fd
theorem pNF_put (nm : ByteArray) (m : V) : ∀ l : List F, pNF (putF nm m l) ≤ pNF l + pN m
  | [] => by unfold putF; simp only [pNF]; omega
  | .mk a x :: r => by
    have := pNF_put nm m r
    unfold putF
    split
    · simp only [pNF]; omega
    · split
      · simp only [pNF]; omega
      · simp only [pNF]; omega
theorem pNF_put_some {nm : ByteArray} {m old : V} : ∀ {l : List F}, Srt l → lk l nm = some old → pNF (putF nm m l) + pN old ≤ pNF l + pN m
  | [], _, h => by cases h
  | .mk a x :: r, hs, h => by
    obtain ⟨h1, h2⟩ := List.pairwise_cons.1 hs
    unfold putF
    rw [lk] at h
    by_cases e : a = nm
    · rw [if_pos (show nmF (.mk a x) = nm from e)] at h
      have h : x = old := by injection h
      subst h; subst e
      rw [if_neg (show ¬ cmpS a (nmF (F.mk a x)) < 0 by show ¬ cmpS a a < 0; rw [cmpS_self]; omega), if_pos (show a = nmF (F.mk a x) from rfl)]
      simp only [pNF]; omega
    · rw [if_neg (show ¬ nmF (.mk a x) = nm from e)] at h
      have h3 : cmpS a nm < 0 := h1 _ (lk_mem h)
      have h4 := cmpS_anti a nm
      have := pNF_put_some (m := m) h2 h
      rw [if_neg (show ¬ cmpS nm (nmF (F.mk a x)) < 0 from fun h9 => by have h9 : cmpS nm a < 0 := h9; omega), if_neg (show ¬ nm = nmF (F.mk a x) from fun e' => e e'.symm)]
      simp only [pNF]; omega
theorem pNF_filter (p : F → Bool) : ∀ l : List F, pNF (l.filter p) ≤ pNF l
  | [] => by simp [pNF]
  | .mk a x :: r => by
    have := pNF_filter p r
    rw [List.filter_cons]
    split
    · simp only [pNF]; omega
    · simp only [pNF]; omega
theorem pNF_drop_some {nm : ByteArray} {t : V} : ∀ {l : List F}, lk l nm = some t → pNF (dropF nm l) + pN t ≤ pNF l
  | [], h => by cases h
  | .mk a x :: r, h => by
    rw [lk] at h
    unfold dropF
    rw [List.filter_cons]
    by_cases e : a = nm
    · rw [if_pos (show nmF (.mk a x) = nm from e)] at h
      have h : x = t := by injection h
      subst h
      have := pNF_filter (fun f => decide (nmF f ≠ nm)) r
      rw [if_neg (by simp [nmF, e])]
      simp only [pNF]; omega
    · rw [if_neg (show ¬ nmF (.mk a x) = nm from e)] at h
      have := pNF_drop_some h
      unfold dropF at this
      rw [if_pos (by simp [nmF, e])]
      simp only [pNF]; omega
theorem pN_zero : pN V0 = 1 := by simp [V0, pN, pNL, pNF]
theorem pN_setFields (v : V) (fs : List F) : pN (setFields v fs) = 1 + pNL (items v) + pNF fs := by
  obtain ⟨k, n, s, is, fs0⟩ := v; rfl
theorem pN_obj (fs : List F) : pN (obj fs) = 1 + pNF fs := by simp [obj, pN, pNL]
theorem pN_own (v : V) : pN v = 1 + pNL (items v) + pNF (fields v) := by obtain ⟨k, n, s, is, fs⟩ := v; rfl
mutual
theorem pN_merge : ∀ {x p : V}, chkV x = 0 → chkV p = 0 → pN (mergeV x p) + 1 ≤ pN x + pN p
  | x, .mk k n s is us, hx, hp => by
    have hpos := pN_pos x
    simp only [mergeV]
    by_cases hk : k ≠ 5
    · rw [if_pos hk]; omega
    · rw [if_neg hk, pN_setFields]
      obtain ⟨hb1, hb2⟩ := base_right hx
      obtain ⟨hu1, hu2⟩ : Srt us ∧ ∀ f ∈ us, chkV (vlF f) = 0 := fields_ok hp
      have h := pNF_merge us (out := fields (base x)) hb1 (fun f _ y h => hb2 _ (lk_mem h)) (srt_ne' hu1) hu2
      have hb : pN (base x) ≤ pN x := by
        unfold base
        split
        · exact Nat.le_refl _
        · rw [pN_obj]; simp only [pNF]; exact hpos
      rw [pN_own (base x)] at hb
      simp only [pN]; omega
theorem pNF_merge : ∀ (us : List F) {out : List F}, Srt out → (∀ f ∈ us, ∀ y, lk out (nmF f) = some y → chkV y = 0) → (us.Pairwise fun a b => nmF a ≠ nmF b) → (∀ f ∈ us, chkV (vlF f) = 0) → pNF (mergeFs out us) ≤ pNF out + pNF us
  | [], out, _, _, _, _ => by simp only [mergeFs, pNF]; omega
  | .mk nm x :: r, out, hs, hc, hn, hu => by
    obtain ⟨n1, n2⟩ := List.pairwise_cons.1 hn
    have hx : chkV x = 0 := hu (.mk nm x) (by simp)
    have hu' : ∀ f ∈ r, chkV (vlF f) = 0 := fun f hf => hu f (by simp [hf])
    simp only [mergeFs]
    by_cases hk : kind x = 0
    · rw [if_pos hk]
      have h := pNF_merge r (out := dropF nm out) (srt_drop hs nm) (fun f hf y hy => by rw [lk_drop, if_neg (show ¬ nm = nmF f from n1 f hf)] at hy; exact hc f (by simp [hf]) y hy) n2 hu'
      have := pNF_filter (fun f => decide (nmF f ≠ nm)) out
      unfold dropF at h ⊢
      simp only [pNF]; omega
    · rw [if_neg hk]
      have h := pNF_merge r (out := putF nm (mergeV ((lk out nm).getD V0) x) out) (srt_put hs nm _) (fun f hf y hy => by rw [lk_put hs, if_neg (show ¬ nm = nmF f from n1 f hf)] at hy; exact hc f (by simp [hf]) y hy) n2 hu'
      cases hl : lk out nm with
      | none =>
        rw [hl] at h
        have h1 := pN_merge (x := V0) (p := x) (by decide) hx
        have h2 := pNF_put nm (mergeV V0 x) out
        rw [pN_zero] at h1
        simp only [Option.getD_none] at h ⊢
        simp only [pNF]; omega
      | some old =>
        rw [hl] at h
        have h1 := pN_merge (x := old) (p := x) (hc (.mk nm x) (by simp) old hl) hx
        have h2 := pNF_put_some (m := mergeV old x) hs hl
        simp only [Option.getD_some] at h ⊢
        simp only [pNF]; omega
end
theorem pNF_putAll : ∀ (us out : List F), pNF (putAll out us) ≤ pNF out + pNF us
  | [], out => by unfold putAll; simp [pNF]
  | .mk nm x :: r, out => by
    have h := pNF_putAll r (putF nm x out)
    have h2 := pNF_put nm x out
    show pNF (putAll (putF nm x out) r) ≤ _
    simp only [pNF]; omega
theorem lk_cons_ne {f : F} {r : List F} {m : ByteArray} (h : nmF f ≠ m) : lk (f :: r) m = lk r m := by rw [lk, if_neg h]
theorem patchFs_drop (nm : ByteArray) (ts : List F) : ∀ {r : List F}, (∀ f ∈ r, nm ≠ nmF f) → patchFs r ts = patchFs r (dropF nm ts)
  | [], _ => by simp only [patchFs]
  | .mk a x :: r, h => by
    have ha : ¬ nm = a := h (.mk a x) (by simp)
    simp only [patchFs]
    rw [lk_drop, if_neg ha, patchFs_drop nm ts (fun f hf => h f (by simp [hf]))]
theorem newF_cons_none {f : F} {r ts : List F} (h : lk ts (nmF f) = none) : newF (f :: r) ts = newF r ts := by
  unfold newF
  refine List.filter_congr (fun t ht => ?_)
  rw [lk_cons_ne (fun e => by
    have h2 := lk_isSome.1 ⟨t, ht, e.symm⟩
    rw [h] at h2
    obtain ⟨_, h2⟩ := h2
    cases h2)]
theorem newF_cons_some (f : F) (r ts : List F) : newF (f :: r) ts = newF r (dropF (nmF f) ts) := by
  unfold newF dropF
  rw [List.filter_filter]
  refine List.filter_congr (fun t _ => ?_)
  by_cases e : nmF f = nmF t
  · rw [lk, if_pos e]
    simp [e]
  · rw [lk_cons_ne e]
    simp
    exact fun _ e' => e e'.symm
mutual
theorem pN_patch : ∀ {x : V} (y : V), chkV x = 0 → pN (patchV x y) ≤ pN x + pN y
  | .mk k n s is fs, y, hx => by
    by_cases h : k ≠ 5 ∨ kind y ≠ 5
    · have e1 : patchV (.mk k n s is fs) y = y := by unfold patchV; rw [if_pos h]
      rw [e1]; omega
    · have hk : k = 5 := Classical.byContradiction fun e => h (.inl e)
      have hky : kind y = 5 := Classical.byContradiction fun e => h (.inr e)
      rw [patchV_obj hk hky, pN_obj]
      obtain ⟨hf1, hf2⟩ : Srt fs ∧ ∀ f ∈ fs, chkV (vlF f) = 0 := fields_ok hx
      have h1 := pNF_putAll (ents fs (fields y)) []
      have h2 := pNF_patch fs (fields y) (srt_ne' hf1) hf2
      rw [ents_is, pNF_append] at h1
      rw [pN_own y]
      simp only [pN, pNF] at h1 ⊢
      rw [ents_is]; omega
theorem pNF_patch : ∀ (fs ts : List F), (fs.Pairwise fun a b => nmF a ≠ nmF b) → (∀ f ∈ fs, chkV (vlF f) = 0) → pNF (patchFs fs ts) + pNF (newF fs ts) ≤ pNF fs + pNF ts
  | [], ts, _, _ => by
    have : newF [] ts = ts := by unfold newF; simp [lk]
    rw [this]; simp only [patchFs, pNF]; omega
  | .mk nm x :: r, ts, hn, hc => by
    obtain ⟨n1, n2⟩ := List.pairwise_cons.1 hn
    have hx : chkV x = 0 := hc (.mk nm x) (by simp)
    have hc' : ∀ f ∈ r, chkV (vlF f) = 0 := fun f hf => hc f (by simp [hf])
    have hpos := pN_pos x
    cases hl : lk ts nm with
    | none =>
      have h := pNF_patch r ts n2 hc'
      rw [newF_cons_none (f := .mk nm x) hl]
      simp only [patchFs, hl, pNF, pN_zero]; omega
    | some t =>
      have h := pNF_patch r (dropF nm ts) n2 hc'
      have hd := pNF_drop_some hl
      have hp := pN_patch (x := x) t hx
      rw [newF_cons_some]
      simp only [patchFs, hl, nmF]
      rw [patchFs_drop nm ts n1]
      split
      · simp only [pNF]; omega
      · simp only [pNF]; omega
end
theorem putAll_snoc (out l : List F) (nm : ByteArray) (x : V) : putAll out (l ++ [.mk nm x]) = putF nm x (putAll out l) := by
  unfold putAll; rw [List.foldl_append]; rfl
theorem putAll_len : ∀ (l out : List F), (putAll out l).length ≤ out.length + l.length
  | [], out => by simp [putAll]
  | .mk nm x :: r, out => by
    have h := putAll_len r (putF nm x out)
    have h2 := put_len nm x out
    show (putAll (putF nm x out) r).length ≤ _
    simp only [List.length_cons]; omega
end Fd
end Go.Proofs.YtbhcfmdogdaodaaGreatDoor
namespace Go.Proofs.YtbhcfmdogdaodaaGreatDoor
open Go.RowKit
namespace Fd
open _root_.Go.Proofs.YtbhcfmdogdaodaaGreatDoor.Nt (RH RH.cell RH.box RH.lt RH.new RH.ext RH.fre RH.set RH.other RH.row RH.row_other)
open _root_.Go.Proofs.YtbhcfmdogdaodaaGreatDoor.Rw (All2 All2.get All2.length All2.mono wpList_load_agg wp_stored Kept Fresh fresh_own)
/-- the blocks of D ahead of lo, and all from hi on -/
def inD (D : Nat → Prop) (lo hi : Nat) : Nat → Prop := fun q => (D q ∧ q < lo) ∨ hi ≤ q
/-- a row of fields that hangs on the blocks of D -/
def FR (D : Nat → Prop) (X : World) (l : List F) (v : Value) (E : List (List Value)) : Prop := On D (fun Z => Sl Z v l.length E.flatten ∧ All2 (RepF Z) l E) X
theorem On.start {D : Nat → Prop} {P : World → Prop} {w X : World} {hi : Nat} (h : On D P w) (hb : Below w.heap.size w X) : On (inD D w.heap.size hi) P X := fun Z hZ => h Z (fun q h1 h2 => (hZ q (Nat.lt_of_lt_of_le h1 hb.size) (.inl ⟨h2, h1⟩)).trans (hb.block q h1))
theorem On.fin {D : Nat → Prop} {P : World → Prop} {X : World} {lo hi : Nat} (h : On (inD D lo hi) P X) (hlh : lo ≤ hi) : On (fun q => D q ∨ lo ≤ q) P X := h.mono (fun q _ h2 => by
  rcases h2 with h2 | h2
  · exact .inl h2.1
  · exact .inr (by omega))
theorem On.setRow {D : Nat → Prop} {P : World → Prop} {X : World} {lo hi b : Nat} {A : Array Value} (h : On (inD D lo hi) P X) (h1 : lo ≤ b) (h2 : b < hi) : On (inD D lo hi) P (X.setRow b A) := h.keep (by rw [setRow_size]; exact Nat.le_refl _) (fun q _ hq => setRow_other _ _ _ _ (by
  rcases hq with hq | hq
  · have := hq.2; omega
  · omega))
theorem FR.ofQ {D : Nat → Prop} {W w' : World} {lo hi : Nat} {l : List F} {v : Value} {E : List (List Value)} (h : OwnP (pOn (inD D lo hi) W) W.heap.size w' l v E) (hb : Below W.heap.size W w') (hW : hi ≤ W.heap.size) : FR (inD D lo hi) w' l v E := fun Z hZ => by
  have hA : All2 (fun f c => On (inD D lo hi) (fun Z => RepF Z f c) w') l E := h.rep.mono (fun _ _ k => On.below k hb)
  exact ⟨fresh_own h.own Z (fun q h1 h2 => hZ q h2 (.inr (by omega))), all_on hA Z hZ⟩
theorem FR.sl {D : Nat → Prop} {X : World} {l : List F} {v : Value} {E : List (List Value)} (h : FR D X l v E) : Sl X v l.length E.flatten := (On.now h).1
theorem FR.all {D : Nat → Prop} {X : World} {l : List F} {v : Value} {E : List (List Value)} (h : FR D X l v E) : All2 (pOn D X).P l E := on_all (On.map h (fun _ k => k.2))
theorem FR.below {D : Nat → Prop} {X Y : World} {l : List F} {v : Value} {E : List (List Value)} (h : FR D X l v E) (hb : Below X.heap.size X Y) : FR D Y l v E := On.below h hb
theorem FR.nil (D : Nat → Prop) (X : World) : FR D X [] (.slice none 0 0) [] := fun Z _ => ⟨Sl.nil Z, trivial⟩
theorem on_zero (D : Nat → Prop) (X : World) : On D (fun Z => RepV Z V0 [.int .i64 0, .int .i64 0, .string eB, .slice none 0 0, .slice none 0 0]) X := fun Z _ => rep_zero Z
/-- an object of the call's own -/
theorem on_obj {D : Nat → Prop} {X : World} {l : List F} {ai : Option Addr} {ci : Nat} {v : Value} {E : List (List Value)} (hi : ∀ Z, Sl Z (.slice ai 0 ci) 0 []) (h : FR D X l v E) : On D (fun Z => RepV Z (obj l) [.int .i64 5, .int .i64 0, .string eB, .slice ai 0 ci, v]) X := fun Z hZ => by
  obtain ⟨a, c, e, _⟩ := (h Z hZ).1
  subst e
  exact rep_mk (k := 5) (n := 0) (s := ByteArray.empty) (is := []) (EI := []) ⟨by unfold i64ok; omega, by unfold i64ok; omega, by decide⟩ (hi Z) trivial (h Z hZ).1 (h Z hZ).2
theorem FR.shape {D : Nat → Prop} {X : World} {l : List F} {v : Value} {E : List (List Value)} (h : FR D X l v E) : ∃ a c, v = .slice a l.length c := by
  obtain ⟨a, c, e, _⟩ := h.sl
  exact ⟨a, c, e⟩
/-- the call's variable, its argument's box, the result's box -/
structure MdI (w X : World) (d : Nat) (vi v4 : Value) : Prop where
  rv : RH X d (vAr 5 0 eB vi v4) 25
  rr : ∃ A, RH X (w.heap.size + 2) A 25 ∧ A.size = 5
  bx : Below w.heap.size w X
section
variable {w X X' : World} {d : Nat} {vi v4 : Value}
theorem MdI.ext (h : MdI w X d vi v4) (hb : Below X.heap.size X X') : MdI w X' d vi v4 :=
  ⟨h.rv.ext hb, by obtain ⟨A, a, b⟩ := h.rr; exact ⟨A, a.ext hb, b⟩, ext_trans h.bx hb⟩
theorem MdI.row (h : MdI w X d vi v4) (hd : w.heap.size ≤ d) (hd2 : d ≠ w.heap.size + 2) (vi' v4' : Value) : MdI w (X.setRow d (vAr 5 0 eB vi' v4')) d vi' v4' :=
  ⟨h.rv.row _, by obtain ⟨A, a, b⟩ := h.rr; exact ⟨A, a.row_other (by omega) _, b⟩, below_setRow h.bx hd _⟩
theorem MdI.c (h : MdI w X d vi v4) : X.cell? ⟨d, 0, none⟩ = some (.int .i64 5) ∧ X.cell? ⟨d, 1, none⟩ = some (.int .i64 0) ∧ X.cell? ⟨d, 2, none⟩ = some (.string eB) ∧ X.cell? ⟨d, 3, none⟩ = some vi ∧ X.cell? ⟨d, 4, none⟩ = some v4 := va5 h.rv
end
end Fd
end Go.Proofs.YtbhcfmdogdaodaaGreatDoor
