/- fieldOf and drop of the reference. Printed by gen_rvale.py. drop of the reference, whatever is known of the elements. Printed by gen_rwf.py. What is known of fields that hang on certain blocks, as drop, put and fieldOf of the reference ask it. -/
import Derived.Test.YtbhcfmdogdaodaaGreatDoorRz25
import Derived.Test.YtbhcfmdogdaodaaGreatDoorRz10
import Derived.Test.YtbhcfmdogdaodaaGreatDoorRz06
namespace Go.Proofs.YtbhcfmdogdaodaaGreatDoor
open Go.RowKit
namespace Fd
open _root_.Go.Proofs.YtbhcfmdogdaodaaGreatDoor.Nt (RH RH.cell RH.box RH.lt RH.new RH.ext RH.fre RH.set RH.other)
open _root_.Go.Proofs.YtbhcfmdogdaodaaGreatDoor.Rw (All2 All2.get All2.length All2.append wpList_load_agg wp_stored Kept)
theorem str_yes {a b : ByteArray} (h : a = b) : (a.toList == b.toList) = true := by rw [h]; simp
theorem str_no {a b : ByteArray} (h : a ≠ b) : (a.toList == b.toList) = false := by
  cases hb : (a.toList == b.toList) with
  | false => rfl
  | true =>
    have h2 : cmpS a b = 0 := cmpS_eq (by rw [hb]; rfl)
    exact absurd (cmpS_zero h2) h
def fofR (x : V) (nm : ByteArray) : Option V := if kind x = 5 then lk (fields x) nm else none
def FofPost (r : Option V) (w : World) (e : Ending) (w' : World) : Prop := ∃ c, e = .returned (.tuple #[.agg c.toArray, .bool r.isSome]) ∧ RepV w' (r.getD V0) c ∧ Below w.heap.size w w'
theorem lk_drop_get {fs : List F} {q : Nat} {f : F} {nm : ByteArray} (h : fs[q]? = some f) : lk (fs.drop q) nm = if nmF f = nm then some (vlF f) else lk (fs.drop (q + 1)) nm := by
  rw [drop_get h, lk]
set_option maxRecDepth 100000 in
set_option maxHeartbeats 8000000 in
theorem fieldOf_at (x : V) (nm : ByteArray) (cs : List Value) (w : World) (hx : RepV w x cs) : Calls Tryz.prog 47 #[.agg cs.toArray, .string nm] w (FofPost (fofR x nm) w) := by
  obtain ⟨k, n, s, is, fs⟩ := x
  obtain ⟨ai, ci, af, cf, EI, EF, rfl, i1, i2, i3, hV⟩ := RepV.open hx
  have HV := Lib.hid (And.intro hV.sf hV.rf)
  have hl2 : (fs.length : Int) ≤ 9223372036854775807 := by obtain ⟨_, _, e, k1, k2, _⟩ := hV.sf; cases e; unfold maxLen at k2; omega
  obtain ⟨r, hr⟩ : ∃ r, fofR (.mk k n s is fs) nm = r := ⟨_, rfl⟩
  have HR := Lib.hid hr
  rw [hr]
  clear hx hV i1 i2 i3 hr
  go_enter Tryz.func47, Tryz.ntmps47
  go_upto_region 1 with (fail)
  refine wp_vr2 fun W hbW hR1 hR2 => ?_
  have a0 : W.cell? ⟨w.heap.size, 0, none⟩ = some (.int .i64 k) := hR1.cell 0
  have a4 : W.cell? ⟨w.heap.size, 4, none⟩ = some (.slice af fs.length cf) := hR1.cell 4
  have HR2 := Lib.hid hR2
  have HBW := Lib.hid hbW
  clear hR1 hR2 hbW
  by_cases hk : k = 5
  · have HL0 : Hid (r = lk (fs.drop 0) nm) := Lib.hid (by rw [← HR.out]; show (if k = 5 then lk fs nm else none) = _; rw [if_pos hk, List.drop_zero])
    subst hk
    have hRA : ∃ A, RH W (w.heap.size + 1) A 25 ∧ A.size = 5 := ⟨_, HR2.out, rfl⟩
    have HRA := Lib.hid hRA
    clear HR HR2 hRA
    go_wp2_with fail
    go_loopw [14] (fun i wr => ∃ q : Nat, q ≤ fs.length ∧ i = .int .i64 (q : Int) ∧ Hid (r = lk (fs.drop q) nm) ∧ Hid (∃ A, RH wr (w.heap.size + 1) A 25 ∧ A.size = 5) ∧ Hid (Below w.heap.size w wr)) (fun i _ => fs.length - (intOf i).toNat)
    case atStart => exact ⟨0, Nat.zero_le _, rfl, HL0, HRA, HBW⟩
    case round =>
      clear HL0 HRA HBW
      obtain ⟨q, hq, rfl, HL, HA, HW⟩ := hrel
      generalize hXX : wr = X at *
      clear hXX a0 a4
      by_cases hlt : q < fs.length
      · obtain ⟨f, hfu⟩ : ∃ f, fs[q]? = some f := ⟨_, List.getElem?_eq_getElem hlt⟩
        obtain ⟨cy, hcy, hrw0⟩ := All2.get HV.out.2 hfu
        have hry := RepF.ext HW.out hrw0
        obtain ⟨p, o, e0, hp0, hcell⟩ := sl_elem (HV.out.1.ext HW.out) (all_len (fun _ _ => RepF.len) HV.out.2) (by omega) hcy
        subst e0
        obtain ⟨nm', y⟩ := f
        have hry2 := hrw0
        simp only [RepF] at hry2
        obtain ⟨cv5, rfl, hnm, hrv⟩ := hry2
        obtain ⟨ky, ny, sy, a1, m1, r1, a2, m2, r2, rfl⟩ := V5 hrv
        have HFU := Lib.hid hfu
        have HNM := Lib.hid hnm
        have HRW := Lib.hid hrv
        have HRF := Lib.hid hrw0
        have HINF := Lib.hid (f_info hry)
        have HONE := Lib.hid (all_arr (RepF.one hry))
        have hqi : (q : Int) < (fs.length : Int) := by omega
        clear hfu hcy hrw0 hry hnm hrv hp0
        go_upto_region 5 with (first | (refine wpList_load_agg rfl _ _ rfl p (o + q * 6) (by rfl) [.string nm', .int .i64 ky, .int .i64 ny, .string sy, .slice a1 m1 r1, .slice a2 m2 r2] (fun j v hj => by rw [Nat.add_assoc]; exact hcell j v hj) _ Tryz.underlying54 rfl HINF.out ?_) | (refine wpList_store_row rfl _ _ _ rfl X.heap.size #[.string nm', .int .i64 ky, .int .i64 ny, .string sy, .slice a1 m1 r1, .slice a2 m2 r2] rfl rfl _ _ (RH.new _ _ _) HINF.out rfl HONE.out ?_))
        refine wp_stored fun Y hbY hRf => ?_
        have HWY := Lib.hid (ext_trans HW.out hbY)
        have HRFY := Lib.hid hRf
        have f0 : Y.cell? ⟨X.heap.size, 0, none⟩ = some (.string nm') := hRf.cell 0
        have HCS : Hid (∀ (j : Nat) (v : Value), [Value.int .i64 ky, .int .i64 ny, .string sy, .slice a1 m1 r1, .slice a2 m2 r2][j]? = some v → Y.cell? ⟨X.heap.size, 1 + j, none⟩ = some v) := Lib.hid (fun j v hj => by
          rw [hRf.cell, Nat.add_comm]; simpa using hj)
        have HAY : Hid (∃ A, RH Y (w.heap.size + 1) A 25 ∧ A.size = 5) := Lib.hid (by obtain ⟨A, a, b⟩ := HA.out; exact ⟨A, a.ext hbY, b⟩)
        generalize X.heap.size = fb at *
        clear hcell HINF HONE
        have HST : Hid (r = if nm' = nm then some y else lk (fs.drop (q + 1)) nm) := Lib.hid (by rw [HL.out, lk_drop_get HFU.out]; rfl)
        clear hbY hRf HL HA HW
        by_cases he : nm' = nm
        · have hsb := str_yes he
          have HFR : Hid (r = some y) := Lib.hid (HST.out.trans (if_pos he))
          obtain ⟨A, hA, hAS⟩ := HAY.out
          have HAA := Lib.hid hA
          clear HST HAY hA he
          go_wp2_with (first | (refine wpList_load_agg rfl _ _ rfl fb 1 (by rfl) [.int .i64 ky, .int .i64 ny, .string sy, .slice a1 m1 r1, .slice a2 m2 r2] HCS.out _ Tryz.underlying25 rfl (v_inf5 ky ny sy (.slice a1 m1 r1) (.slice a2 m2 r2)) ?_) | (refine wpList_store_row rfl _ _ _ rfl (w.heap.size + 1) (vAr ky ny sy (.slice a1 m1 r1) (.slice a2 m2 r2)) rfl rfl _ _ HAA.out (v_inf5 _ _ _ _ _) hAS (v_all5 _ _ _ _ _ _ _ _ _) ?_))
          (try simp only [Exit.inBlock, Exit.then])
          refine bodyPost_ret (v := .tuple #[.agg (vAr ky ny sy (.slice a1 m1 r1) (.slice a2 m2 r2)), .bool true]) (results_row_tmp rfl _ _ _ _ _ _ _ _ rfl (HAA.out.row _) Tryz.underlying25 rfl (v_inf5 _ _ _ _ _) rfl) rfl ?_
          have hb := below_setRow HWY.out (show w.heap.size ≤ w.heap.size + 1 by omega) (vAr ky ny sy (.slice a1 m1 r1) (.slice a2 m2 r2))
          show FofPost r w _ _
          rw [HFR.out]
          exact ⟨_, rfl, RepV.ext hb HRW.out, hb⟩
        · have hsb := str_no he
          have HL2 : Hid (r = lk (fs.drop (q + 1)) nm) := Lib.hid (HST.out.trans (if_neg he))
          clear HST he
          go_wp2_with fail
          go_roundw
          case rel => exact ⟨q + 1, by omega, by go_num, HL2, HAY, HWY⟩
          case measure => simp [intOf]; omega
      · obtain rfl : q = fs.length := by omega
        have HFR : Hid (r = none) := Lib.hid (by rw [HL.out, List.drop_length]; rfl)
        obtain ⟨A, hA, hAS⟩ := HA.out
        have HAA := Lib.hid hA
        clear HL HA hA
        go_wp2_with (refine wpList_store_row rfl _ _ _ rfl (w.heap.size + 1) (vAr 0 0 eB (.slice none 0 0) (.slice none 0 0)) rfl rfl _ _ HAA.out (v_inf5 _ _ _ _ _) hAS (v_all5 _ _ _ _ _ _ _ _ _) ?_)
        (try simp only [Exit.inBlock, Exit.then])
        refine bodyPost_ret (v := .tuple #[.agg (vAr 0 0 eB (.slice none 0 0) (.slice none 0 0)), .bool false]) (results_row_tmp rfl _ _ _ _ _ _ _ _ rfl (HAA.out.row _) Tryz.underlying25 rfl (v_inf5 _ _ _ _ _) rfl) rfl ?_
        show FofPost r w _ _
        rw [HFR.out]
        exact ⟨_, rfl, rep_zero _, below_setRow HW.out (by omega) _⟩
  · have HFR : Hid (r = none) := Lib.hid (by rw [← HR.out]; show (if k = 5 then lk fs nm else none) = _; rw [if_neg hk])
    have hkb : (k == 5) = false := by simpa using hk
    clear HR
    go_wp2_with (refine wpList_store_row rfl _ _ _ rfl (w.heap.size + 1) (vAr 0 0 eB (.slice none 0 0) (.slice none 0 0)) rfl rfl _ _ HR2.out (v_inf5 _ _ _ _ _) rfl (v_all5 _ _ _ _ _ _ _ _ _) ?_)
    (try simp only [Exit.inBlock, Exit.then])
    refine bodyPost_ret (v := .tuple #[.agg (vAr 0 0 eB (.slice none 0 0) (.slice none 0 0)), .bool false]) (results_row_tmp rfl _ _ _ _ _ _ _ _ rfl (HR2.out.row _) Tryz.underlying25 rfl (v_inf5 _ _ _ _ _) rfl) rfl ?_
    show FofPost r w _ _
    rw [HFR.out]
    exact ⟨_, rfl, rep_zero _, below_setRow HBW.out (by omega) _⟩
end Fd
end Go.Proofs.YtbhcfmdogdaodaaGreatDoor
namespace Go.Proofs.YtbhcfmdogdaodaaGreatDoor
open Go.RowKit
namespace Fd
open _root_.Go.Proofs.YtbhcfmdogdaodaaGreatDoor.Nt (RH RH.cell RH.box RH.lt RH.new RH.ext RH.fre RH.set RH.other)
open _root_.Go.Proofs.YtbhcfmdogdaodaaGreatDoor.Rw (All2 All2.get All2.length All2.append wpList_load_agg wp_stored Kept)
/-- what is known of an element: it reads as the field in every world grown from w -/
structure PF (w : World) where
  P : F → List Value → Prop
  ok : ∀ f c X, Below w.heap.size w X → P f c → RepF X f c
/-- a row of fields of the call's own -/
structure OwnP {w0 : World} (p : PF w0) (N : Nat) (w : World) (l : List F) (v : Value) (E : List (List Value)) : Prop where
  own : w.ownsRow N 54 6 v l.length E.flatten
  rep : All2 p.P l E
section
variable {N : Nat} {w0 w w' : World} {p : PF w0} {l : List F} {v : Value} {E : List (List Value)}
theorem OwnP.ext (h : OwnP p N w l v E) (hb : Below w.heap.size w w') : OwnP p N w' l v E := ⟨own_keep h.own (Rw.Kept.below hb), h.rep⟩
theorem OwnP.rep0 (h : OwnP p N w l v E) : All2 (RepF w0) l E := h.rep.mono (fun _ _ k => p.ok _ _ _ (Below.refl _ _) k)
theorem OwnP.six (h : OwnP p N w l v E) : ∀ c ∈ E, c.length = 6 := all_len (fun _ _ => RepF.len) h.rep0
theorem OwnP.one (h : OwnP p N w l v E) : ∀ u ∈ E.flatten, u.oneCell' = true := all_one (fun _ _ => RepF.one) h.rep0
theorem OwnP.sl (h : OwnP p N w l v E) : Sl w v l.length E.flatten := Sl.ofOwn h.own
theorem OwnP.nil {w0 : World} (p : PF w0) (N : Nat) (w : World) : OwnP p N w [] (.slice none 0 0) [] := ⟨World.ownsRow_nil _ _ _ _, trivial⟩
theorem OwnP.kept (h : OwnP p N w l v E) (k : Kept N w w') : OwnP p N w' l v E := ⟨own_keep h.own k, h.rep⟩
theorem OwnP.mono (h : OwnP p N w l v E) {M : Nat} (hM : M ≤ N) : OwnP p M w l v E := ⟨Rw.own_mono h.own hM, h.rep⟩
theorem OwnP.shape (h : OwnP p N w l v E) : ∃ a c, v = .slice a l.length c := by
  obtain ⟨a, c, e, _⟩ := h.sl
  exact ⟨a, c, e⟩
end
theorem wpList_snocP {ops : Array Oper} {rest : List Oper} {o : Oper} {a : Act} {Q : Exit → Act → World → Prop} {N : Nat} {w w0 : World} (p : PF w0) (hgd : o.guard = none) (s x : Operand)
    (ho : o.op = .call { callee := .builtin .append, args := #[s, x], argTypes := #[23, 23] })
    {l : List F} {v : Value} {E : List (List Value)} {m : F} {c : List Value} {B : Nat} {tB : TypeId}
    (hs : a.eval s = v) (hx : a.eval x = .slice (some ⟨B, 0, none⟩) 1 1) (hO : OwnP p N w l v E) (hc0 : p.P m c) (hb : N ≤ w.heap.size)
    (hB : RH w B c.toArray tB) (hn : l.length ≤ 100000000)
    (h : ∀ a7 c7 LN w7, LN = (l ++ [m]).length → w.grownBy w7 v.ownBlock → OwnP p N w7 (l ++ [m]) (.slice a7 LN c7) (E ++ [c]) → wpList Tryz.prog ops Q rest (a.put o.dst (.slice a7 LN c7)) w7) :
    wpList Tryz.prog ops Q (o :: rest) a w := by
  have hc : RepF w0 m c := p.ok _ _ _ (Below.refl _ _) hc0
  obtain ⟨J, hJ⟩ : ∃ i, Tryz.prog.info? 54 = some i := by
    cases hq : Tryz.prog.info? 54 with
    | none => have := fI; rw [hq] at this; cases this
    | some i => exact ⟨i, rfl⟩
  have hci := fI
  rw [hJ] at hci
  simp only [Option.map_some, Option.some.injEq, Prod.mk.injEq] at hci
  obtain ⟨hz1, hz2, hz3⟩ := hci
  have hl : c.length = 6 := RepF.len hc
  have hcB : ∀ (j : Nat) (u : Value), c[j]? = some u → w.cell? ((⟨B, 0, none⟩ : Addr).add j) = some u := fun j u hu => by
    rw [add_spot, Nat.zero_add, hB.cell]; exact (List.getElem?_toArray).trans hu
  refine wpList_append_own_at _ hgd s x _ ho N _ J _ 6 96 Tryz.underlying23 hJ hz1 hz2 hz3 rfl (by decide) v l.length E.flatten hs hO.own ⟨B, 0, none⟩ 1 1 c hx (by rw [hl]) hcB (RepF.one hc) (by unfold maxLen; omega) (by omega) hb ?_
  intro v' w' g1 g2 _ g3
  have hO7 : OwnP p N w' (l ++ [m]) v' (E ++ [c]) := ⟨by rw [List.length_append, List.flatten_append]; simpa using g1, All2.append hO.rep ⟨hc0, trivial⟩⟩
  obtain ⟨a7, c7, rfl⟩ := hO7.shape
  exact h a7 c7 _ w' rfl g2 hO7
theorem dropF_snoc (nm : ByteArray) (l : List F) (f : F) : dropF nm (l ++ [f]) = dropF nm l ++ (if nmF f = nm then [] else [f]) := by
  unfold dropF
  rw [List.filter_append, List.filter_cons, List.filter_nil]
  by_cases h : nmF f = nm
  · rw [if_pos h, if_neg (by simp [h])]
  · rw [if_neg h, if_pos (by simp [h])]
theorem dropF_len (nm : ByteArray) (l : List F) : (dropF nm l).length ≤ l.length := List.length_filter_le _ _
/-- what drop answers: the same value with a row of fields of the call's own -/
def DropQ {w0 : World} (p : PF w0) (k n : Int) (s : ByteArray) (vi : Value) (l : List F) (w : World) (e : Ending) (w' : World) : Prop := ∃ (a : Option Addr) (c : Nat) (E : List (List Value)), e = .returned (.agg #[.int .i64 k, .int .i64 n, .string s, vi, .slice a l.length c]) ∧ OwnP p w.heap.size w' l (.slice a l.length c) E ∧ Below w.heap.size w w'
set_option maxRecDepth 100000 in
set_option maxHeartbeats 8000000 in
theorem dropP_at {w0 : World} (pe : PF w0) (k n : Int) (s : ByteArray) (ai : Option Addr) (ni ci : Nat) (fs : List F) (af : Option Addr) (cf : Nat) (EF : List (List Value)) (nm : ByteArray) (w : World) (hb0 : Below w0.heap.size w0 w) (hs : Sl w (.slice af fs.length cf) fs.length EF.flatten) (hr : All2 pe.P fs EF) (hl : fs.length ≤ 100000) :
    Calls Tryz.prog 66 #[.agg #[.int .i64 k, .int .i64 n, .string s, .slice ai ni ci, .slice af fs.length cf], .string nm] w (DropQ pe k n s (.slice ai ni ci) (dropF nm fs) w) := by
  have HV := Lib.hid (And.intro hs hr)
  have HV0 : Hid (All2 (RepF w0) fs EF) := Lib.hid (hr.mono (fun _ _ k => pe.ok _ _ _ (Below.refl _ _) k))
  have HB0 := Lib.hid hb0
  have hl2 : (fs.length : Int) ≤ 9223372036854775807 := by omega
  obtain ⟨g, hg⟩ : ∃ g, dropF nm fs = g := ⟨_, rfl⟩
  have HG := Lib.hid hg
  rw [hg]
  clear hs hr hg hb0
  go_enter Tryz.func66, Tryz.ntmps66
  go_upto_region 1 with (fail)
  refine wp_vr2 fun W hbW hR1 hR2 => ?_
  have a4 : W.cell? ⟨w.heap.size, 4, none⟩ = some (.slice af fs.length cf) := hR1.cell 4
  have HR1 : Hid (RH W w.heap.size (vAr k n s (.slice ai ni ci) (.slice af fs.length cf)) 25) := Lib.hid hR1
  have HRA : Hid (∃ A, RH W (w.heap.size + 1) A 25 ∧ A.size = 5) := Lib.hid ⟨_, hR2, rfl⟩
  have HBW := Lib.hid hbW
  clear hR1 hR2 hbW
  go_wp2_with fail
  go_loopw [5, 11] (fun v i wr => ∃ (q : Nat) (E : List (List Value)) (a : Option Addr) (c : Nat) (LN : Nat), q ≤ fs.length ∧ i = .int .i64 (q : Int) ∧ v = .slice a LN c ∧ Hid (LN = (dropF nm (fs.take q)).length) ∧ Hid (OwnP pe (w.heap.size + 2) wr (dropF nm (fs.take q)) (.slice a LN c) E) ∧ Hid (Below w.heap.size w wr) ∧
    Hid (RH wr w.heap.size (vAr k n s (.slice ai ni ci) (.slice af fs.length cf)) 25) ∧ Hid (∃ A, RH wr (w.heap.size + 1) A 25 ∧ A.size = 5)) (fun _ i _ => fs.length - (intOf i).toNat)
  case atStart => exact ⟨0, [], none, 0, 0, Nat.zero_le _, rfl, rfl, Lib.hid rfl, Lib.hid (OwnP.nil pe _ _), HBW, HR1, HRA⟩
  case round =>
    clear HR1 HRA HBW
    obtain ⟨q, E, a, c, LN, hq, rfl, rfl, HLN, HO, HW, HR1, HA⟩ := hrel
    generalize hXX : wr = X at *
    clear hXX a4
    by_cases hlt : q < fs.length
    · obtain ⟨f, hfu⟩ : ∃ f, fs[q]? = some f := ⟨_, List.getElem?_eq_getElem hlt⟩
      obtain ⟨cy, hcy, hrw0⟩ := All2.get HV.out.2 hfu
      have hry := pe.ok _ _ X (ext_trans HB0.out HW.out) hrw0
      obtain ⟨p, o, e0, hp0, hcell⟩ := sl_elem (HV.out.1.ext HW.out) (all_len (fun _ _ => RepF.len) HV0.out) (by omega) hcy
      subst e0
      obtain ⟨nm', y⟩ := f
      have hry2 := hry
      simp only [RepF] at hry2
      obtain ⟨cv5, rfl, hnm, hrv⟩ := hry2
      obtain ⟨ky, ny, sy, a1, m1, r1, a2, m2, r2, rfl⟩ := V5 hrv
      have HFU := Lib.hid hfu
      have HNM := Lib.hid hnm
      have HRW := Lib.hid hrv
      have HRF := Lib.hid hrw0
      have HINF := Lib.hid (f_info hry)
      have HONE := Lib.hid (all_arr (RepF.one hry))
      have hqi : (q : Int) < (fs.length : Int) := by omega
      clear hfu hcy hrw0 hry hnm hrv hp0
      go_upto_region 5 with (first | (refine wpList_load_agg rfl _ _ rfl p (o + q * 6) (by rfl) [.string nm', .int .i64 ky, .int .i64 ny, .string sy, .slice a1 m1 r1, .slice a2 m2 r2] (fun j v hj => by rw [Nat.add_assoc]; exact hcell j v hj) _ Tryz.underlying54 rfl HINF.out ?_) | (refine wpList_store_row rfl _ _ _ rfl X.heap.size #[.string nm', .int .i64 ky, .int .i64 ny, .string sy, .slice a1 m1 r1, .slice a2 m2 r2] rfl rfl _ _ (RH.new _ _ _) HINF.out rfl HONE.out ?_))
      refine wp_stored fun Y hbY hRf => ?_
      have HWY := Lib.hid (ext_trans HW.out hbY)
      have HRFY := Lib.hid hRf
      have f0 : Y.cell? ⟨X.heap.size, 0, none⟩ = some (.string nm') := hRf.cell 0
      have HCS : Hid (∀ (j : Nat) (v : Value), [Value.int .i64 ky, .int .i64 ny, .string sy, .slice a1 m1 r1, .slice a2 m2 r2][j]? = some v → Y.cell? ⟨X.heap.size, 1 + j, none⟩ = some v) := Lib.hid (fun j v hj => by
        rw [hRf.cell, Nat.add_comm]; simpa using hj)
      have HOY := Lib.hid (HO.out.ext hbY)
      have HAY : Hid (∃ A, RH Y (w.heap.size + 1) A 25 ∧ A.size = 5) := Lib.hid (by obtain ⟨A, a, b⟩ := HA.out; exact ⟨A, a.ext hbY, b⟩)
      have HR1Y := Lib.hid (HR1.out.ext hbY)
      have HNY : Hid (w.heap.size + 2 ≤ Y.heap.size) := Lib.hid (by obtain ⟨A, a, _⟩ := HAY.out; have := a.lt; omega)
      generalize X.heap.size = fb at *
      clear hcell HINF HONE
      have HTK : Hid (dropF nm (fs.take (q + 1)) = dropF nm (fs.take q) ++ (if nm' = nm then [] else [.mk nm' y])) := Lib.hid (by rw [take_one HFU.out, dropF_snoc]; rfl)
      clear hbY hRf HO HW HA HR1
      by_cases he : nm' = nm
      · have hsb := str_yes he
        have HE : Hid (dropF nm (fs.take (q + 1)) = dropF nm (fs.take q)) := Lib.hid (by rw [HTK.out, if_pos he, List.append_nil])
        clear HTK he
        go_wp2_with fail
        go_roundw
        case rel => exact ⟨q + 1, E, a, c, LN, by omega, by go_num, rfl, Lib.hid (by rw [HE.out]; exact HLN.out), Lib.hid (by rw [HE.out]; exact HOY.out), HWY, HR1Y, HAY⟩
        case measure => simp [intOf]; omega
      · have hsb := str_no he
        have HE : Hid (dropF nm (fs.take (q + 1)) = dropF nm (fs.take q) ++ [.mk nm' y]) := Lib.hid (by rw [HTK.out, if_neg he])
        have HLL : Hid ((dropF nm (fs.take q)).length ≤ 100000000) := Lib.hid (by have h1 := dropF_len nm (fs.take q); rw [List.length_take] at h1; omega)
        have f1 : Y.cell? ⟨fb, 1, none⟩ = some (.int .i64 ky) := HRFY.out.cell 1
        have f2 : Y.cell? ⟨fb, 2, none⟩ = some (.int .i64 ny) := HRFY.out.cell 2
        have f3 : Y.cell? ⟨fb, 3, none⟩ = some (.string sy) := HRFY.out.cell 3
        have f4 : Y.cell? ⟨fb, 4, none⟩ = some (.slice a1 m1 r1) := HRFY.out.cell 4
        have f5 : Y.cell? ⟨fb, 5, none⟩ = some (.slice a2 m2 r2) := HRFY.out.cell 5
        clear HTK he
        go_wp2_with (at_builtin; refine wpList_snocP (N := w.heap.size + 2) (p := pe) (l := dropF nm (fs.take q)) rfl _ _ rfl rfl rfl (HOY.out.ext (ext_alloc _ _)) HRF.out (Nat.le_trans HNY.out (ext_alloc _ _).size) (RH.new _ _ _) HLL.out ?_; intro a7 c7 LN7 w7 hLN7 hg7 hO7; have HLN7 := Lib.hid hLN7; have HO7 := Lib.hid hO7; have HG7 := Lib.hid hg7; clear hLN7 hO7 hg7)
        have HOB : Hid (∀ q9, (Value.slice a LN c).ownBlock = some q9 → w.heap.size + 2 ≤ q9) := Lib.hid (fun q9 h9 => (Rw.own_base HOY.out.own q9 h9).1)
        have HW7 : Hid (Below w.heap.size w w7) := Lib.hid ((ext_trans HWY.out (ext_alloc _ _)).grown HG7.out (Nat.le_trans HWY.out.size (ext_alloc _ _).size) (fun q9 h9 => by have := HOB.out q9 h9; omega))
        go_roundw
        case rel => exact ⟨q + 1, _, a7, c7, LN7, by omega, by go_num, rfl, Lib.hid (by rw [HE.out]; exact HLN7.out), Lib.hid (by rw [HE.out]; exact HO7.out), HW7, Lib.hid (Rw.rh_grown (HR1Y.out.ext (ext_alloc _ _)) HG7.out (fun e => by have := HOB.out _ e.symm; omega)), Lib.hid (by obtain ⟨A, h1, h2⟩ := HAY.out; exact ⟨A, Rw.rh_grown (h1.ext (ext_alloc _ _)) HG7.out (fun e => by have := HOB.out _ e.symm; omega), h2⟩)⟩
        case measure => simp [intOf]; omega
    · obtain rfl : q = fs.length := by omega
      have HGE : Hid (dropF nm (fs.take fs.length) = g) := Lib.hid (by rw [List.take_length]; exact HG.out)
      have d4 : X.cell? ⟨w.heap.size, 4, none⟩ = some (.slice af fs.length cf) := HR1.out.cell 4
      have hz : X.frozen? ⟨w.heap.size, 4, none⟩ = false := HR1.out.fre 4
      obtain ⟨A, hA, hAS⟩ := HA.out
      have HAA : Hid (RH (X.setCell ⟨w.heap.size, 4, none⟩ (.slice a LN c)) (w.heap.size + 1) A 25) := Lib.hid (hA.other (p := ⟨w.heap.size, 4, none⟩) (by simp) _)
      have HRD : Hid (RH (X.setCell ⟨w.heap.size, 4, none⟩ (.slice a LN c)) w.heap.size (vAr k n s (.slice ai ni ci) (.slice a LN c)) 25) := Lib.hid (HR1.out.set 4 _)
      have HFIN : Hid (DropQ pe k n s (.slice ai ni ci) g w (.returned (.agg (vAr k n s (.slice ai ni ci) (.slice a LN c)))) ((X.setCell ⟨w.heap.size, 4, none⟩ (.slice a LN c)).setRow (w.heap.size + 1) (vAr k n s (.slice ai ni ci) (.slice a LN c)))) := Lib.hid (by
        have h1 := HO.out
        rw [HGE.out] at h1
        have h2 := HLN.out
        rw [HGE.out] at h2
        subst h2
        refine ⟨a, c, E, rfl, (h1.kept (fun q9 h3 h4 => ?_)).mono (by omega), below_setRow (HW.out.setCell (p := ⟨w.heap.size, 4, none⟩) (Nat.le_refl _) _) (by omega) _⟩
        rw [setRow_other _ _ _ _ (by omega)]
        exact Rw.kept_set (N := w.heap.size + 2) (fun _ _ _ => rfl) (show w.heap.size < w.heap.size + 2 by omega) q9 h3 h4)
      clear hA HA HO HLN hq hlt
      go_wp2_with (first | (refine wpList_load_agg rfl _ _ rfl w.heap.size 0 (by rfl) [.int .i64 k, .int .i64 n, .string s, .slice ai ni ci, .slice a LN c] (vAr_cell HRD.out) _ Tryz.underlying25 rfl (v_inf5 k n s (.slice ai ni ci) (.slice a LN c)) ?_) | (refine wpList_store_row rfl _ _ _ rfl (w.heap.size + 1) (vAr k n s (.slice ai ni ci) (.slice a LN c)) rfl rfl _ _ HAA.out (v_inf5 _ _ _ _ _) hAS (v_all5 _ _ _ _ _ _ _ _ _) ?_))
      (try simp only [Exit.inBlock, Exit.then])
      refine bodyPost_ret (v := .agg (vAr k n s (.slice ai ni ci) (.slice a LN c))) (results_cell_row rfl _ _ _ _ _ _ _ rfl (HAA.out.row _) Tryz.underlying25 rfl (v_inf5 _ _ _ _ _)) rfl HFIN.out
end Fd
end Go.Proofs.YtbhcfmdogdaodaaGreatDoor
namespace Go.Proofs.YtbhcfmdogdaodaaGreatDoor
open Go.RowKit
namespace Fd
/-- what is known of fields on certain blocks -/
def pOn (D : Nat → Prop) (w : World) : PF w where
  P f c := On D (fun Z => RepF Z f c) w
  ok _ _ _ hb h := (h.below hb).now
end Fd
end Go.Proofs.YtbhcfmdogdaodaaGreatDoor
