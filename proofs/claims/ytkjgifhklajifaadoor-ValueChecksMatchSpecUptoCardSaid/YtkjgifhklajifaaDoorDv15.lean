/- Write of the reference: a value's text. Printed by gen_rsh.py. Write of the reference: lists. Printed by gen_rsh.py. Write of the reference: objects; at every value. Printed by gen_rsh.py. -/
import Derived.Test.YtkjgifhklajifaaDoorDv13
import Derived.Test.YtkjgifhklajifaaDoorDv14
import Derived.Maps.AppendAt
namespace Go.Proofs.YtkjgifhklajifaaDoor
open Go.RowKit
namespace Fd
open _root_.Go.Proofs.YtkjgifhklajifaaDoor.Nm
open _root_.Go.Proofs.YtkjgifhklajifaaDoor.Nt (RH RH.cell RH.box RH.lt RH.new RH.ext RH.fre RH.set RH.other)
open _root_.Go.Proofs.YtkjgifhklajifaaDoor.Rw (All2 All2.get All2.length wpList_load_agg wp_stored)
/-- a row of texts of the call's own -/
abbrev OSt (w : World) (N : Nat) (v : Value) (U : List (List UInt8)) : Prop := w.ownsRow N 9 1 v U.length (U.map (fun u => Value.string (Tx.stB u)))
theorem strI : (Tryd.prog.info? 9).map (fun i => (i.zero, i.size, i.bytes)) = some (some (.string ⟨#[]⟩), 1, 16) := by kernel_rfl
theorem wpList_append_txt {ops : Array Oper} {rest : List Oper} {o : Oper} {a : Act} {w : World} {Q : Exit → Act → World → Prop} (hgd : o.guard = none) (s x : Operand)
    (ho : o.op = .call { callee := .builtin .append, args := #[s, x], argTypes := #[46, 46] })
    (N : Nat) (v : Value) (U : List (List UInt8)) (hs : a.eval s = v) (hown : OSt w N v U) (B : Nat) (y : List UInt8) (tB : TypeId) (hx : a.eval x = .slice (some ⟨B, 0, none⟩) 1 1) (hB : RH w B #[.string (Tx.stB y)] tB) (hl : U.length ≤ 100000) (hbase : N ≤ w.heap.size)
    (h : ∀ a7 c7 LN w7, LN = (U ++ [y]).length → OSt w7 N (.slice a7 LN c7) (U ++ [y]) → w.grownBy w7 v.ownBlock → wpList Tryd.prog ops Q rest (a.put o.dst (.slice a7 LN c7)) w7) : wpList Tryd.prog ops Q (o :: rest) a w := by
  obtain ⟨i, hi⟩ : ∃ i, Tryd.prog.info? 9 = some i := by
    cases hq : Tryd.prog.info? 9 with
    | none => have := strI; rw [hq] at this; cases this
    | some i => exact ⟨i, rfl⟩
  have hci := strI
  rw [hi] at hci
  simp only [Option.map_some, Option.some.injEq, Prod.mk.injEq] at hci
  obtain ⟨h1, h2, h3⟩ := hci
  refine wpList_append_own w hgd s x _ ho N _ i _ 1 16 Tryd.underlying46 hi h1 h2 h3 rfl (by decide) v U.length _ hs hown ⟨B, 0, none⟩ 1 1 [.string (Tx.stB y)] hx rfl (fun j u hu => by rw [add_spot, Nat.zero_add, hB.cell]; simpa using hu) (fun u hu => by simp at hu; subst hu; rfl) (by unfold maxLen; omega) (by omega) hbase fun v' w' g1 g2 _ => ?_
  have g3 : OSt w' N v' (U ++ [y]) := by
    show w'.ownsRow N _ 1 v' (U ++ [y]).length _
    rw [List.map_append, List.length_append]; exact g1
  obtain ⟨a7, c7, e⟩ : ∃ a7 c7, v' = .slice a7 (U ++ [y]).length c7 := by
    rcases g3.2 with ⟨hv, h0⟩ | ⟨g, cap, cur, hv, _⟩
    · exact ⟨none, 0, by rw [h0]; exact hv⟩
    · exact ⟨_, _, hv⟩
  subst e
  exact h a7 c7 _ w' rfl g3 g2
theorem comma_join : ∀ l : List (List UInt8), Lib.join l [44] = commaL l
  | [] => rfl
  | [x] => Lib.join_one x [44]
  | x :: y :: r => by
    rw [Lib.join_cons, commaL, ← comma_join (y :: r), Lib.join_cons]
    simp [Lib.joinTail]
theorem join_txt {w : World} {N : Nat} {a : Option Addr} {n c : Nat} {U : List (List UInt8)} (h : OSt w N (.slice a U.length c) U) (hn : n = U.length) (hU : U.length ≤ 100000) (hlen : (commaL U).length ≤ 1000000000) :
    Calls Tryd.prog 47 #[.slice a n c, .string ⟨#[44]⟩] w fun e w' => e = .returned (.string (Tx.stB (commaL U))) ∧ Below w.heap.size w w' := by
  subst hn
  have hs := Sl.ofOwn h
  obtain ⟨a', cap, hv, h1, h2, h0, h3⟩ := hs
  injection hv with e1 e2 e3
  subst e1; subst e3
  have hj : Lib.join ((U.map Tx.stB).map (·.data.toList)) (⟨#[44]⟩ : ByteArray).data.toList = commaL U := by
    rw [List.map_map, show ((fun b : ByteArray => b.data.toList) ∘ Tx.stB) = id from rfl, List.map_id]
    exact comma_join U
  cases U with
  | nil =>
    refine (Tryd.strings_Join_none a c ⟨#[44]⟩ w).mono ?_
    rintro e w' ⟨rfl, hb⟩
    exact ⟨rfl, by first | exact hb | (rw [hb]; exact Below.refl _ _)⟩
  | cons x r =>
    obtain ⟨b, o, rfl, hc0⟩ := h3 0 (.string (Tx.stB x)) rfl
    have hl : ((x :: r).map Tx.stB).length = (x :: r).length := List.length_map _
    have h9 := Tryd.strings_Join b o c ((x :: r).map Tx.stB) ⟨#[44]⟩ w (fun j y hy => by
      rw [List.getElem?_map] at hy
      cases hz : (x :: r)[j]? with
      | none => rw [hz] at hy; cases hy
      | some z =>
        rw [hz] at hy
        cases hy
        obtain ⟨b', o', eb, hc⟩ := h3 j (.string (Tx.stB z)) (by rw [List.getElem?_map, hz]; rfl)
        cases eb
        exact hc) (World.block_lt_of_cell? _ _ hc0) (by rw [hl]; omega) (by rw [hl]; exact h1) (by rw [hj]; omega)
    rw [hl] at h9
    refine h9.mono ?_
    rintro e w' ⟨rfl, hb⟩
    rw [hj]
    exact ⟨rfl, hb⟩
def RwAt (x : V) : Prop := ∀ (cs : List Value) (w : World), RepV w x cs → Tx.Tb w → Tx.Ml w → chkV x = 0 → (wrV x).length ≤ 1000000000 → Calls Tryd.prog 22 #[.agg cs.toArray] w fun e w' => e = .returned (.string (Tx.stB (wrV x))) ∧ Below w.heap.size w w'
theorem wrap_str (a b : UInt8) (l : List UInt8) : (⟨#[a]⟩ : ByteArray) ++ Tx.stB l ++ (⟨#[b]⟩ : ByteArray) = Tx.stB (a :: (l ++ [b])) := by
  rw [show (⟨#[a]⟩ : ByteArray) = Tx.stB [a] from rfl, show (⟨#[b]⟩ : ByteArray) = Tx.stB [b] from rfl, app_str, app_str]
  rfl
theorem elem_le {l : List (List UInt8)} {q : Nat} {x : List UInt8} (h : l[q]? = some x) : x.length ≤ (commaL l).length := by
  have h1 := comma_le l (q + 1)
  by_cases hq : q = 0
  · subst hq
    rw [comma_first h] at h1; exact h1
  · rw [comma_take h (by omega), List.length_append, List.length_cons] at h1; omega
set_option maxRecDepth 100000 in
set_option maxHeartbeats 16000000 in
theorem rw_none (n : Int) (s : ByteArray) (is : List V) (fs : List F) : RwAt (.mk 0 n s is fs) := by
  intro cs w hx hT hM hck hlen
  obtain ⟨ai, ci, af, cf, EI, EF, rfl, i1, i2, i3, hV⟩ := RepV.open hx
  have HT := Lib.hid hT
  have HM := Lib.hid hM
  have HLN := Lib.hid hlen
  have HCK := Lib.hid hck
  have HV := Lib.hid hV
  clear hx hT hM hlen hck hV i1 i2 i3
  go_enter Tryd.func22, Tryd.ntmps22
  go_upto_region 1 with (fail)
  refine Tx.wp_vr1 fun W hbW hR1 => ?_
  obtain ⟨a0, a1, a2, a3, a4⟩ := va5 hR1
  have HBW := Lib.hid hbW
  have HR1 := Lib.hid hR1
  clear hR1 hbW
  have HW : Hid (wrV (.mk 0 n s is fs) = [110, 117, 108, 108]) := Lib.hid (by simp [wrV])
  go_wp2
  go_ret
  exact ⟨by rw [HW.out]; rfl, HBW.out⟩
set_option maxRecDepth 100000 in
set_option maxHeartbeats 16000000 in
theorem rw_bool (n : Int) (s : ByteArray) (is : List V) (fs : List F) : RwAt (.mk 1 n s is fs) := by
  intro cs w hx hT hM hck hlen
  obtain ⟨ai, ci, af, cf, EI, EF, rfl, i1, i2, i3, hV⟩ := RepV.open hx
  have HT := Lib.hid hT
  have HM := Lib.hid hM
  have HLN := Lib.hid hlen
  have HCK := Lib.hid hck
  have HV := Lib.hid hV
  clear hx hT hM hlen hck hV i1 i2 i3
  go_enter Tryd.func22, Tryd.ntmps22
  go_upto_region 1 with (fail)
  refine Tx.wp_vr1 fun W hbW hR1 => ?_
  obtain ⟨a0, a1, a2, a3, a4⟩ := va5 hR1
  have HBW := Lib.hid hbW
  have HR1 := Lib.hid hR1
  clear hR1 hbW
  rcases (show n = 1 ∨ n ≠ 1 by omega) with hn | hn
  · have hnb : (n == 1) = true := by simpa using hn
    have HW : Hid (wrV (.mk 1 n s is fs) = [116, 114, 117, 101]) := Lib.hid (by simp [wrV, hn])
    clear hn
    go_wp2
    go_ret
    exact ⟨by rw [HW.out]; rfl, HBW.out⟩
  · have hnb : (n == 1) = false := by simpa using hn
    have HW : Hid (wrV (.mk 1 n s is fs) = [102, 97, 108, 115, 101]) := Lib.hid (by simp [wrV, hn])
    clear hn
    go_wp2
    go_ret
    exact ⟨by rw [HW.out]; rfl, HBW.out⟩
set_option maxRecDepth 100000 in
set_option maxHeartbeats 16000000 in
theorem rw_num (n : Int) (s : ByteArray) (is : List V) (fs : List F) : RwAt (.mk 2 n s is fs) := by
  intro cs w hx hT hM hck hlen
  obtain ⟨ai, ci, af, cf, EI, EF, rfl, i1, i2, i3, hV⟩ := RepV.open hx
  have HT := Lib.hid hT
  have HM := Lib.hid hM
  have HLN := Lib.hid hlen
  have HCK := Lib.hid hck
  have HV := Lib.hid hV
  clear hx hT hM hlen hck hV i1 i2 i3
  go_enter Tryd.func22, Tryd.ntmps22
  go_upto_region 1 with (fail)
  refine Tx.wp_vr1 fun W hbW hR1 => ?_
  obtain ⟨a0, a1, a2, a3, a4⟩ := va5 hR1
  have HBW := Lib.hid hbW
  have HR1 := Lib.hid hR1
  clear hR1 hbW
  have HW : Hid (wrV (.mk 2 n s is fs) = numT n) := Lib.hid (by simp [wrV])
  have HNR : Hid (-1000000000000000 < n ∧ n < 1000000000000000) := Lib.hid (num_range HCK.out)
  go_wp2_with fail
  refine (rnum_at n W (HT.out.ext HBW.out) HNR.out.1 HNR.out.2).mono ?_
  rintro e w1 ⟨rfl, hb1⟩
  have HB1 := Lib.hid (ext_trans HBW.out hb1)
  clear hb1
  go_wp2
  go_ret
  exact ⟨by rw [HW.out]; rfl, HB1.out⟩
set_option maxRecDepth 100000 in
set_option maxHeartbeats 16000000 in
theorem rw_text (n : Int) (s : ByteArray) (is : List V) (fs : List F) : RwAt (.mk 3 n s is fs) := by
  intro cs w hx hT hM hck hlen
  obtain ⟨ai, ci, af, cf, EI, EF, rfl, i1, i2, i3, hV⟩ := RepV.open hx
  have HT := Lib.hid hT
  have HM := Lib.hid hM
  have HLN := Lib.hid hlen
  have HCK := Lib.hid hck
  have HV := Lib.hid hV
  clear hx hT hM hlen hck hV i1 i2 i3
  go_enter Tryd.func22, Tryd.ntmps22
  go_upto_region 1 with (fail)
  refine Tx.wp_vr1 fun W hbW hR1 => ?_
  obtain ⟨a0, a1, a2, a3, a4⟩ := va5 hR1
  have HBW := Lib.hid hbW
  have HR1 := Lib.hid hR1
  clear hR1 hbW
  have HW : Hid (wrV (.mk 3 n s is fs) = quoL s.data.toList) := Lib.hid (by simp [wrV])
  have HSZ : Hid (s.size ≤ 500) := Lib.hid (text_range HCK.out)
  go_wp2_with fail
  refine (rquote_at s HSZ.out W (HM.out.ext HBW.out)).mono ?_
  rintro e w1 ⟨rfl, hb1⟩
  have HB1 := Lib.hid (ext_trans HBW.out hb1)
  clear hb1
  go_wp2
  go_ret
  exact ⟨by rw [HW.out]; rfl, HB1.out⟩
end Fd
end Go.Proofs.YtkjgifhklajifaaDoor
namespace Go.Proofs.YtkjgifhklajifaaDoor
open Go.RowKit
namespace Fd
open _root_.Go.Proofs.YtkjgifhklajifaaDoor.Nm
open _root_.Go.Proofs.YtkjgifhklajifaaDoor.Nt (RH RH.cell RH.box RH.lt RH.new RH.ext RH.fre RH.set RH.other)
open _root_.Go.Proofs.YtkjgifhklajifaaDoor.Rw (All2 All2.get All2.length wpList_load_agg wp_stored)
set_option maxRecDepth 100000 in
set_option maxHeartbeats 16000000 in
theorem rw_list (n : Int) (s : ByteArray) (is : List V) (fs : List F) (HS0 : ∀ x ∈ is, RwAt x) : RwAt (.mk 4 n s is fs) := by
  have HSH := Lib.hid HS0
  clear HS0
  intro cs w hx hT hM hck hlen
  obtain ⟨ai, ci, af, cf, EI, EF, rfl, i1, i2, i3, hV⟩ := RepV.open hx
  have HT := Lib.hid hT
  have HM := Lib.hid hM
  have HLN := Lib.hid hlen
  have HCK := Lib.hid hck
  have HV := Lib.hid hV
  clear hx hT hM hlen hck hV i1 i2 i3
  go_enter Tryd.func22, Tryd.ntmps22
  go_upto_region 1 with (fail)
  refine Tx.wp_vr1 fun W hbW hR1 => ?_
  obtain ⟨a0, a1, a2, a3, a4⟩ := va5 hR1
  have HBW := Lib.hid hbW
  have HR1 := Lib.hid hR1
  clear hR1 hbW
  have hck := chkV_ok HCK.out
  have HCI := Lib.hid hck.2.1
  clear hck
  have HL100 : Hid (is.length ≤ 100) := Lib.hid (by have := (fs_len HCK.out).2; exact this)
  have hlen4 : (is.length : Int) ≤ 9223372036854775807 := by have := HL100.out; omega
  have HW : Hid (wrV (.mk 4 n s is fs) = 91 :: (commaL (wrL is) ++ [93])) := Lib.hid (by simp [wrV])
  have HWL : Hid ((wrL is).length = is.length) := Lib.hid (by rw [wrL_map, List.length_map])
  have HLB : Hid ((commaL (wrL is)).length ≤ 1000000000) := Lib.hid (by
    have h2 := HLN.out
    rw [HW.out] at h2
    simp only [List.length_cons, List.length_append, List.length_nil] at h2
    omega)
  have HO0 : Hid (OSt W (w.heap.size + 1) (.slice none (List.take 0 (wrL is)).length 0) ((wrL is).take 0)) := Lib.hid (World.ownsRow_nil _ _ _ _)
  have HS0 : Hid (w.heap.size + 1 ≤ W.heap.size) := Lib.hid HR1.out.lt
  have HLN0 : Hid (0 = (List.take 0 (wrL is)).length) := Lib.hid rfl
  go_wp2_with fail
  go_loopw [3, 32] (fun v i wr => ∃ (q : Nat) (a : Option Addr) (c LN : Nat), q ≤ is.length ∧ i = .int .i64 (q : Int) ∧ v = .slice a LN c ∧ Hid (LN = ((wrL is).take q).length) ∧ Hid (OSt wr (w.heap.size + 1) (.slice a ((wrL is).take q).length c) ((wrL is).take q)) ∧ Hid (Below w.heap.size w wr) ∧ Hid (w.heap.size + 1 ≤ wr.heap.size)) (fun _ i _ => is.length - (intOf i).toNat)
  case atStart => exact ⟨0, none, 0, 0, Nat.zero_le _, rfl, rfl, HLN0, HO0, HBW, HS0⟩
  case round =>
    clear HO0 HS0 HBW HR1 HLN0
    obtain ⟨q, av, cv, LN, hq, rfl, rfl, HLL, HO, HB, HS⟩ := hrel
    generalize hXX : wr = X at *
    clear hXX a0 a1 a2 a3 a4
    by_cases hlt : q < is.length
    · obtain ⟨x, hxu⟩ : ∃ x, is[q]? = some x := ⟨_, List.getElem?_eq_getElem hlt⟩
      have hVX := HV.out.ext HB.out
      obtain ⟨cy, hcy, hry⟩ := All2.get hVX.ri hxu
      obtain ⟨p, o, e0, hp0, hcell⟩ := sl_elem hVX.si (all_len (fun _ _ => RepV.len) hVX.ri) (by omega) hcy
      subst e0
      obtain ⟨kx, nx, sx, b1, m1, r1, b2, m2, r2, rfl⟩ := V5 hry
      have HINF := Lib.hid (v_info hry)
      have HONE := Lib.hid (all_arr (RepV.one hry))
      have HRX := Lib.hid hry
      have HXU : Hid ((wrL is)[q]? = some (wrV x)) := Lib.hid (by rw [wrL_map, List.getElem?_map, hxu]; rfl)
      have HCX : Hid (chkV x = 0) := Lib.hid (HCI.out x (List.mem_of_getElem? hxu))
      have HSX : Hid (RwAt x) := Lib.hid (HSH.out x (List.mem_of_getElem? hxu))
      have hqi : (q : Int) < (is.length : Int) := by omega
      clear hxu hVX hcy hry hp0
      go_upto_region 17 with (first | (refine wpList_load_agg rfl _ _ rfl p (o + q * 5) (by rfl) [.int .i64 kx, .int .i64 nx, .string sx, .slice b1 m1 r1, .slice b2 m2 r2] (fun j v hj => by rw [Nat.add_assoc]; exact hcell j v hj) _ Tryd.underlying25 rfl HINF.out ?_) | (refine wpList_store_row rfl _ _ _ rfl X.heap.size #[.int .i64 kx, .int .i64 nx, .string sx, .slice b1 m1 r1, .slice b2 m2 r2] rfl rfl _ _ (RH.new _ _ _) HINF.out rfl HONE.out ?_))
      refine wp_stored fun Y hbY hRf => ?_
      obtain ⟨f0, f1, f2, f3, f4⟩ := va5 hRf
      have HB2 := Lib.hid (ext_trans HB.out hbY)
      have HO2 := Lib.hid (ownsRow_ext HO.out hbY)
      have HS2 : Hid (w.heap.size + 1 ≤ Y.heap.size) := Lib.hid (Nat.le_trans HS.out hbY.size)
      have HRX2 := Lib.hid (RepV.ext hbY HRX.out)
      generalize X.heap.size = fb at *
      clear hbY hRf hcell HINF HONE HB HO HS HRX
      have HLX : Hid ((wrV x).length ≤ 1000000000) := Lib.hid (Nat.le_trans (elem_le HXU.out) HLB.out)
      go_wp2_with fail
      refine (HSX.out _ Y HRX2.out (HT.out.ext HB2.out) (HM.out.ext HB2.out) HCX.out HLX.out).mono ?_
      rintro e w4 ⟨rfl, hb4⟩
      have HB4 := Lib.hid (ext_trans HB2.out hb4)
      have HO4 := Lib.hid (ownsRow_ext HO2.out hb4)
      have HS4 : Hid (w.heap.size + 1 ≤ w4.heap.size) := Lib.hid (Nat.le_trans HS2.out hb4.size)
      have HLU : Hid (((wrL is).take q).length ≤ 100000) := Lib.hid (by rw [List.length_take, HWL.out]; have := HL100.out; omega)
      clear hb4 f0 f1 f2 f3 f4 HB2 HO2 HS2 HRX2
      have HO5 : Hid (OSt w4 (w.heap.size + 1) (.slice av LN cv) ((wrL is).take q)) := Lib.hid (by have h9 := HO4.out; rw [HLL.out]; exact h9)
      go_wp2_with (at_builtin; refine wpList_append_txt rfl _ _ rfl (w.heap.size + 1) (.slice av LN cv) ((wrL is).take q) rfl (ownsRow_ext HO5.out (ext_alloc _ _)) w4.heap.size (wrV x) _ rfl (RH.new _ _ _) HLU.out (Nat.le_trans HS4.out (ext_alloc _ _).size) ?_; intro a7 c7 LN7 w7 hLN7 hO7 hg7; have HLN7 := Lib.hid hLN7; have HO7 := Lib.hid hO7; have HG7 := Lib.hid hg7; clear hLN7 hO7 hg7)
      have HTK : Hid ((wrL is).take (q + 1) = (wrL is).take q ++ [wrV x]) := Lib.hid (take_one HXU.out)
      have HB7 : Hid (Below w.heap.size w w7) := Lib.hid ((ext_trans HB4.out (ext_alloc _ _)).grown HG7.out (ext_trans HB4.out (ext_alloc _ _)).size (fun q9 h9 => by have := (Rw.own_base HO5.out q9 h9).1; omega))
      have HS7 : Hid (w.heap.size + 1 ≤ w7.heap.size) := Lib.hid (Nat.le_trans HS4.out (Nat.le_trans (ext_alloc _ _).size HG7.out.size))
      go_roundw
      case rel => exact ⟨q + 1, a7, c7, LN7, by omega, by go_num, rfl, Lib.hid (by rw [HTK.out]; exact HLN7.out), Lib.hid (by have := HO7.out; rw [HLN7.out] at this; rw [HTK.out]; exact this), HB7, HS7⟩
      case measure => simp [intOf]; omega
    · obtain rfl : q = is.length := by omega
      have HT9 : Hid ((wrL is).take is.length = wrL is) := Lib.hid (by rw [← HWL.out, List.take_length])
      have HJ := Lib.hid (join_txt (n := LN) HO.out HLL.out (by rw [HT9.out, HWL.out]; have := HL100.out; omega) (by rw [HT9.out]; exact HLB.out))
      rw [HT9.out] at HJ
      go_wp2_with fail
      refine HJ.out.mono ?_
      rintro e w3 ⟨rfl, hb3⟩
      have HB3 := Lib.hid (ext_trans HB.out hb3)
      clear hb3 HJ
      obtain ⟨u, hu⟩ : ∃ u, Tx.stB (commaL (wrL is)) = u := ⟨_, rfl⟩
      have hus : u.size ≤ 1000000000 := by rw [← hu, Tx.stB_size]; exact HLB.out
      have HU := Lib.hid hu
      rw [hu]
      clear hu
      go_wp2
      go_ret
      exact ⟨by rw [HW.out, ← wrap_str, HU.out]; rfl, HB3.out⟩
end Fd
end Go.Proofs.YtkjgifhklajifaaDoor
namespace Go.Proofs.YtkjgifhklajifaaDoor
open Go.RowKit
namespace Fd
open _root_.Go.Proofs.YtkjgifhklajifaaDoor.Nm
open _root_.Go.Proofs.YtkjgifhklajifaaDoor.Nt (RH RH.cell RH.box RH.lt RH.new RH.ext RH.fre RH.set RH.other)
open _root_.Go.Proofs.YtkjgifhklajifaaDoor.Rw (All2 All2.get All2.length wpList_load_agg wp_stored)
/-- a row of one text that a region has made -/
def TPt (s : ByteArray) : TP where
  p w v := ∃ g, v = .slice (some ⟨g, 0, none⟩) 1 1 ∧ RH w g #[.string s] 9
  gr := by
    rintro w w' v hb ⟨g, h1, h2⟩
    exact ⟨g, h1, h2.ext hb⟩
set_option maxRecDepth 100000 in
set_option maxHeartbeats 16000000 in
theorem rw_obj (n : Int) (s : ByteArray) (is : List V) (fs : List F) (HS0 : ∀ f ∈ fs, RwAt (vlF f)) : RwAt (.mk 5 n s is fs) := by
  have HSH := Lib.hid HS0
  clear HS0
  intro cs w hx hT hM hck hlen
  obtain ⟨ai, ci, af, cf, EI, EF, rfl, i1, i2, i3, hV⟩ := RepV.open hx
  have HT := Lib.hid hT
  have HM := Lib.hid hM
  have HLN := Lib.hid hlen
  have HCK := Lib.hid hck
  have HV := Lib.hid hV
  clear hx hT hM hlen hck hV i1 i2 i3
  go_enter Tryd.func22, Tryd.ntmps22
  go_upto_region 1 with (fail)
  refine Tx.wp_vr1 fun W hbW hR1 => ?_
  obtain ⟨a0, a1, a2, a3, a4⟩ := va5 hR1
  have HBW := Lib.hid hbW
  have HR1 := Lib.hid hR1
  clear hR1 hbW
  have hck := chkV_ok HCK.out
  have HCI := Lib.hid hck.2.2.2
  have HCN : Hid (∀ f ∈ fs, (nmF f).size ≤ 60) := Lib.hid (name_range HCK.out)
  clear hck
  have HL100 : Hid (fs.length ≤ 100) := Lib.hid (by have := (fs_len HCK.out).1; exact this)
  have hlen4 : (fs.length : Int) ≤ 9223372036854775807 := by have := HL100.out; omega
  have HW : Hid (wrV (.mk 5 n s is fs) = 123 :: (commaL (wrF fs) ++ [125])) := Lib.hid (by simp [wrV])
  have HWL : Hid ((wrF fs).length = fs.length) := Lib.hid (by rw [wrF_map, List.length_map])
  have HLB : Hid ((commaL (wrF fs)).length ≤ 1000000000) := Lib.hid (by
    have h2 := HLN.out
    rw [HW.out] at h2
    simp only [List.length_cons, List.length_append, List.length_nil] at h2
    omega)
  have HO0 : Hid (OSt W (w.heap.size + 1) (.slice none (List.take 0 (wrF fs)).length 0) ((wrF fs).take 0)) := Lib.hid (World.ownsRow_nil _ _ _ _)
  have HS0 : Hid (w.heap.size + 1 ≤ W.heap.size) := Lib.hid HR1.out.lt
  have HLN0 : Hid (0 = (List.take 0 (wrF fs)).length) := Lib.hid rfl
  go_wp2_with fail
  go_loopw [3, 49] (fun v i wr => ∃ (q : Nat) (a : Option Addr) (c LN : Nat), q ≤ fs.length ∧ i = .int .i64 (q : Int) ∧ v = .slice a LN c ∧ Hid (LN = ((wrF fs).take q).length) ∧ Hid (OSt wr (w.heap.size + 1) (.slice a ((wrF fs).take q).length c) ((wrF fs).take q)) ∧ Hid (Below w.heap.size w wr) ∧ Hid (w.heap.size + 1 ≤ wr.heap.size)) (fun _ i _ => fs.length - (intOf i).toNat)
  case atStart => exact ⟨0, none, 0, 0, Nat.zero_le _, rfl, rfl, HLN0, HO0, HBW, HS0⟩
  case round =>
    clear HO0 HS0 HBW HR1 HLN0
    obtain ⟨q, av, cv, LN, hq, rfl, rfl, HLL, HO, HB, HS⟩ := hrel
    generalize hXX : wr = X at *
    clear hXX a0 a1 a2 a3 a4
    by_cases hlt : q < fs.length
    · obtain ⟨f, hxu⟩ : ∃ f, fs[q]? = some f := ⟨_, List.getElem?_eq_getElem hlt⟩
      have hVX := HV.out.ext HB.out
      obtain ⟨cy, hcy, hry⟩ := All2.get hVX.rf hxu
      obtain ⟨p, o, e0, hp0, hcell⟩ := sl_elem hVX.sf (all_len (fun _ _ => RepF.len) hVX.rf) (by omega) hcy
      subst e0
      obtain ⟨nm, x⟩ := f
      have hry2 := hry
      simp only [RepF] at hry2
      obtain ⟨cv5, rfl, hnm, hrv⟩ := hry2
      obtain ⟨kx, nx, sx, b1, m1, r1, b2, m2, r2, rfl⟩ := V5 hrv
      have HINF := Lib.hid (f_info hry)
      have HONE := Lib.hid (all_arr (RepF.one hry))
      have HRX := Lib.hid hrv
      have HXU : Hid ((wrF fs)[q]? = some (quoL nm.data.toList ++ 58 :: wrV x)) := Lib.hid (by rw [wrF_map, List.getElem?_map, hxu]; rfl)
      have HCX : Hid (chkV x = 0) := Lib.hid (HCI.out _ (List.mem_of_getElem? hxu))
      have HCM : Hid (nm.size ≤ 60) := Lib.hid (HCN.out _ (List.mem_of_getElem? hxu))
      have HSX : Hid (RwAt x) := Lib.hid (HSH.out _ (List.mem_of_getElem? hxu))
      have hqi : (q : Int) < (fs.length : Int) := by omega
      clear hxu hVX hcy hry hrv hnm hp0
      go_upto_region 23 with (first | (refine wpList_load_agg rfl _ _ rfl p (o + q * 6) (by rfl) [.string nm, .int .i64 kx, .int .i64 nx, .string sx, .slice b1 m1 r1, .slice b2 m2 r2] (fun j v hj => by rw [Nat.add_assoc]; exact hcell j v hj) _ Tryd.underlying44 rfl HINF.out ?_) | (refine wpList_store_row rfl _ _ _ rfl X.heap.size #[.string nm, .int .i64 kx, .int .i64 nx, .string sx, .slice b1 m1 r1, .slice b2 m2 r2] rfl rfl _ _ (RH.new _ _ _) HINF.out rfl HONE.out ?_))
      refine wp_stored fun Y hbY hRf => ?_
      have f0 : Y.cell? ⟨X.heap.size, 0, none⟩ = some (.string nm) := hRf.cell 0
      have f1 : Y.cell? ⟨X.heap.size, 1, none⟩ = some (.int .i64 kx) := hRf.cell 1
      have f2 : Y.cell? ⟨X.heap.size, 2, none⟩ = some (.int .i64 nx) := hRf.cell 2
      have f3 : Y.cell? ⟨X.heap.size, 3, none⟩ = some (.string sx) := hRf.cell 3
      have f4 : Y.cell? ⟨X.heap.size, 4, none⟩ = some (.slice b1 m1 r1) := hRf.cell 4
      have f5 : Y.cell? ⟨X.heap.size, 5, none⟩ = some (.slice b2 m2 r2) := hRf.cell 5
      have HB2 := Lib.hid (ext_trans HB.out hbY)
      have HO2 := Lib.hid (ownsRow_ext HO.out hbY)
      have HS2 : Hid (w.heap.size + 1 ≤ Y.heap.size) := Lib.hid (Nat.le_trans HS.out hbY.size)
      have HRX2 := Lib.hid (RepV.ext hbY HRX.out)
      generalize X.heap.size = fb at *
      clear hbY hRf hcell HINF HONE HB HO HS HRX
      have HEL : Hid ((quoL nm.data.toList ++ 58 :: wrV x).length ≤ 1000000000) := Lib.hid (Nat.le_trans (elem_le HXU.out) HLB.out)
      have HLX : Hid ((wrV x).length ≤ 1000000000) := Lib.hid (by have := HEL.out; rw [List.length_append, List.length_cons] at this; omega)
      obtain ⟨qn, hqn⟩ : ∃ qn, Tx.stB (quoL nm.data.toList) = qn := ⟨_, rfl⟩
      obtain ⟨u, hu⟩ : ∃ u, Tx.stB (wrV x) = u := ⟨_, rfl⟩
      have hqs : qn.size ≤ 200 := by
        rw [← hqn, Tx.stB_size]
        have h1 := quo_len nm.data.toList
        have h2 : nm.data.toList.length = nm.size := (Lib.size_eq nm).symm
        have h3 := HCM.out
        omega
      have hus : u.size ≤ 1000000000 := by rw [← hu, Tx.stB_size]; exact HLX.out
      have HQC : Hid (∀ W9, Below Y.heap.size Y W9 → Calls Tryd.prog 46 #[.string nm] W9 fun e w' => e = .returned (.string qn) ∧ Below W9.heap.size W9 w') := Lib.hid (fun W9 hW => by rw [← hqn]; exact rquote_at nm (by have := HCM.out; omega) W9 (HM.out.ext (ext_trans HB2.out hW)))
      have HWC : Hid (∀ W9, Below Y.heap.size Y W9 → Calls Tryd.prog 22 #[.agg #[.int .i64 kx, .int .i64 nx, .string sx, .slice b1 m1 r1, .slice b2 m2 r2]] W9 fun e w' => e = .returned (.string u) ∧ Below W9.heap.size W9 w') := Lib.hid (fun W9 hW => by rw [← hu]; exact HSX.out _ W9 (RepV.ext hW HRX2.out) (HT.out.ext (ext_trans HB2.out hW)) (HM.out.ext (ext_trans HB2.out hW)) HCX.out HLX.out)
      have HQE : Hid (qn ++ (⟨#[58]⟩ : ByteArray) ++ u = Tx.stB (quoL nm.data.toList ++ 58 :: wrV x)) := Lib.hid (by
        rw [← hqn, ← hu, show (⟨#[58]⟩ : ByteArray) = Tx.stB [58] from rfl, app_str, app_str]; simp)
      have HO5 : Hid (OSt Y (w.heap.size + 1) (.slice av LN cv) ((wrF fs).take q)) := Lib.hid (by have h9 := HO2.out; rw [HLL.out]; exact h9)
      have HLU : Hid (((wrF fs).take q).length ≤ 100000) := Lib.hid (by rw [List.length_take, HWL.out]; have := HL100.out; omega)
      clear hqn hu HO2 HRX2 HSX HCX HLX HEL
      refine Grow.wp_region_grow 10 [TP.eq (.slice av LN cv), TP.eq (.pointer (some ⟨fb, 0, none⟩)), TP.eq (.string nm), TP.eq (.string qn), TP.eq (.string (qn ++ ⟨#[58]⟩)), TP.eq (.pointer (some ⟨fb, 1, none⟩)), TP.eq (.agg #[.int .i64 kx, .int .i64 nx, .string sx, .slice b1 m1 r1, .slice b2 m2 r2]), TP.eq (.string u), TP.eq (.string (qn ++ ⟨#[58]⟩ ++ u)), TPt (qn ++ ⟨#[58]⟩ ++ u)] [[], [], [1], [2], [3], [], [5], [6], [4, 7], [8]] (by kernel_rfl) (by kernel_rfl) ⟨?o0e, ?o1e, ?o2e, ?o3e, ?o4e, ?o5e, ?o6e, ?o7e, ?o8e, ?o9e, trivial⟩ ?tle
      case o0e =>
        intro w' hb
        show wpList _ _ _ _ _ _
        go_wp2
        exact ⟨rfl, Below.refl _ _, rfl⟩
      case o1e =>
        intro w' hb
        show wpList _ _ _ _ _ _
        go_wp2
        exact ⟨rfl, Below.refl _ _, rfl⟩
      case o2e =>
        intro w' hb v1 hv1
        have f0' : w'.cell? ⟨fb, 0, none⟩ = some (.string nm) := (hb.cell (World.block_lt_of_cell? _ _ f0)).trans f0
        obtain rfl : v1 = _ := hv1
        show wpList _ _ _ _ _ _
        simp only [Grow.dstOf, List.getElem?_toArray, List.getElem?_cons_succ, List.getElem?_cons_zero, Option.bind_some, Act.put, List.setIfInBounds_toArray, List.set_cons_succ, List.set_cons_zero]
        go_wp2
        exact ⟨rfl, Below.refl _ _, rfl⟩
      case o3e =>
        intro w' hb v2 hv2
        obtain rfl : v2 = _ := hv2
        show wpList _ _ _ _ _ _
        simp only [Grow.dstOf, List.getElem?_toArray, List.getElem?_cons_succ, List.getElem?_cons_zero, Option.bind_some, Act.put, List.setIfInBounds_toArray, List.set_cons_succ, List.set_cons_zero]
        go_wp2_with fail
        refine (HQC.out w' hb).mono ?_
        rintro e wz ⟨rfl, hbz9⟩
        go_wp2
        exact ⟨rfl, hbz9, rfl⟩
      case o4e =>
        intro w' hb v3 hv3
        obtain rfl : v3 = _ := hv3
        show wpList _ _ _ _ _ _
        simp only [Grow.dstOf, List.getElem?_toArray, List.getElem?_cons_succ, List.getElem?_cons_zero, Option.bind_some, Act.put, List.setIfInBounds_toArray, List.set_cons_succ, List.set_cons_zero]
        go_wp2
        exact ⟨rfl, Below.refl _ _, rfl⟩
      case o5e =>
        intro w' hb
        show wpList _ _ _ _ _ _
        go_wp2
        exact ⟨rfl, Below.refl _ _, rfl⟩
      case o6e =>
        intro w' hb v5 hv5
        have f1' : w'.cell? ⟨fb, 1, none⟩ = some (.int .i64 kx) := (hb.cell (World.block_lt_of_cell? _ _ f1)).trans f1
        have f2' : w'.cell? ⟨fb, 2, none⟩ = some (.int .i64 nx) := (hb.cell (World.block_lt_of_cell? _ _ f2)).trans f2
        have f3' : w'.cell? ⟨fb, 3, none⟩ = some (.string sx) := (hb.cell (World.block_lt_of_cell? _ _ f3)).trans f3
        have f4' : w'.cell? ⟨fb, 4, none⟩ = some (.slice b1 m1 r1) := (hb.cell (World.block_lt_of_cell? _ _ f4)).trans f4
        have f5' : w'.cell? ⟨fb, 5, none⟩ = some (.slice b2 m2 r2) := (hb.cell (World.block_lt_of_cell? _ _ f5)).trans f5
        obtain rfl : v5 = _ := hv5
        show wpList _ _ _ _ _ _
        simp only [Grow.dstOf, List.getElem?_toArray, List.getElem?_cons_succ, List.getElem?_cons_zero, Option.bind_some, Act.put, List.setIfInBounds_toArray, List.set_cons_succ, List.set_cons_zero]
        go_wp2
        exact ⟨rfl, Below.refl _ _, rfl⟩
      case o7e =>
        intro w' hb v6 hv6
        obtain rfl : v6 = _ := hv6
        show wpList _ _ _ _ _ _
        simp only [Grow.dstOf, List.getElem?_toArray, List.getElem?_cons_succ, List.getElem?_cons_zero, Option.bind_some, Act.put, List.setIfInBounds_toArray, List.set_cons_succ, List.set_cons_zero]
        go_wp2_with fail
        refine (HWC.out w' hb).mono ?_
        rintro e wz ⟨rfl, hbz9⟩
        go_wp2
        exact ⟨rfl, hbz9, rfl⟩
      case o8e =>
        intro w' hb v4 hv4 v7 hv7
        obtain rfl : v4 = _ := hv4
        obtain rfl : v7 = _ := hv7
        show wpList _ _ _ _ _ _
        simp only [Grow.dstOf, List.getElem?_toArray, List.getElem?_cons_succ, List.getElem?_cons_zero, Option.bind_some, Act.put, List.setIfInBounds_toArray, List.set_cons_succ, List.set_cons_zero]
        go_wp2
        exact ⟨rfl, Below.refl _ _, rfl⟩
      case o9e =>
        intro w' hb v8 hv8
        obtain rfl : v8 = _ := hv8
        show wpList _ _ _ _ _ _
        simp only [Grow.dstOf, List.getElem?_toArray, List.getElem?_cons_succ, List.getElem?_cons_zero, Option.bind_some, Act.put, List.setIfInBounds_toArray, List.set_cons_succ, List.set_cons_zero]
        go_wp2
        exact ⟨⟨_, rfl, RH.new _ _ _⟩, ext_alloc _ _, rfl⟩
      case tle =>
        intro w3 hbz u0 hu0 u1 hu1 u2 hu2 u3 hu3 u4 hu4 u5 hu5 u6 hu6 u7 hu7 u8 hu8 u9 hu9
        obtain rfl : u0 = _ := hu0
        obtain rfl : u1 = _ := hu1
        obtain rfl : u2 = _ := hu2
        obtain rfl : u3 = _ := hu3
        obtain rfl : u4 = _ := hu4
        obtain rfl : u5 = _ := hu5
        obtain rfl : u6 = _ := hu6
        obtain rfl : u7 = _ := hu7
        obtain rfl : u8 = _ := hu8
        obtain ⟨g9, rfl, hR9⟩ := hu9
        rw [HQE.out] at hR9
        have HR9 := Lib.hid hR9
        have HBZ := Lib.hid hbz
        have HB4 := Lib.hid (ext_trans HB2.out hbz)
        have HO6 := Lib.hid (ownsRow_ext HO5.out hbz)
        have HS4 : Hid (w.heap.size + 1 ≤ w3.heap.size) := Lib.hid (Nat.le_trans HS2.out hbz.size)
        clear f0 f1 f2 f3 f4 f5 HQC HWC hR9 hbz HB2 HS2
        show wpList _ _ _ _ _ _
        simp only [Act.put, List.setIfInBounds_toArray, List.set_cons_succ, List.set_cons_zero]
        refine wpList_append_txt rfl _ _ rfl (w.heap.size + 1) (.slice av LN cv) ((wrF fs).take q) rfl HO6.out g9 (quoL nm.data.toList ++ 58 :: wrV x) _ rfl HR9.out HLU.out HS4.out ?_
        intro a7 c7 LN7 w7 hLN7 hO7 hg7
        have HLN7 := Lib.hid hLN7
        have HO7 := Lib.hid hO7
        have HG7 := Lib.hid hg7
        clear hLN7 hO7 hg7
        have HTK : Hid ((wrF fs).take (q + 1) = (wrF fs).take q ++ [quoL nm.data.toList ++ 58 :: wrV x]) := Lib.hid (take_one HXU.out)
        have HB7 : Hid (Below w.heap.size w w7) := Lib.hid (HB4.out.grown HG7.out HB4.out.size (fun q9 h9 => by have := (Rw.own_base HO5.out q9 h9).1; omega))
        have HS7 : Hid (w.heap.size + 1 ≤ w7.heap.size) := Lib.hid (Nat.le_trans HS4.out HG7.out.size)
        go_wp2_with fail
        go_roundw
        case rel => exact ⟨q + 1, a7, c7, LN7, by omega, by go_num, rfl, Lib.hid (by rw [HTK.out]; exact HLN7.out), Lib.hid (by have := HO7.out; rw [HLN7.out] at this; rw [HTK.out]; exact this), HB7, HS7⟩
        case measure => simp [intOf]; omega
    · obtain rfl : q = fs.length := by omega
      have HT9 : Hid ((wrF fs).take fs.length = wrF fs) := Lib.hid (by rw [← HWL.out, List.take_length])
      have HJ := Lib.hid (join_txt (n := LN) HO.out HLL.out (by rw [HT9.out, HWL.out]; have := HL100.out; omega) (by rw [HT9.out]; exact HLB.out))
      rw [HT9.out] at HJ
      go_wp2_with fail
      refine HJ.out.mono ?_
      rintro e w3 ⟨rfl, hb3⟩
      have HB3 := Lib.hid (ext_trans HB.out hb3)
      clear hb3 HJ
      obtain ⟨u, hu⟩ : ∃ u, Tx.stB (commaL (wrF fs)) = u := ⟨_, rfl⟩
      have hus : u.size ≤ 1000000000 := by rw [← hu, Tx.stB_size]; exact HLB.out
      have HU := Lib.hid hu
      rw [hu]
      clear hu
      go_wp2
      go_ret
      exact ⟨by rw [HW.out, ← wrap_str, HU.out]; rfl, HB3.out⟩
theorem rw_all (k n : Int) (s : ByteArray) (is : List V) (fs : List F) (hi : ∀ x ∈ is, RwAt x) (hf : ∀ f ∈ fs, RwAt (vlF f)) : RwAt (.mk k n s is fs) := by
  intro cs w hx hT hM hck hlen
  have hk := (ownF_ok (chkV_ok hck).1).1
  have : k = 0 ∨ k = 1 ∨ k = 2 ∨ k = 3 ∨ k = 4 ∨ k = 5 := by omega
  rcases this with rfl | rfl | rfl | rfl | rfl | rfl
  · exact rw_none n s is fs cs w hx hT hM hck hlen
  · exact rw_bool n s is fs cs w hx hT hM hck hlen
  · exact rw_num n s is fs cs w hx hT hM hck hlen
  · exact rw_text n s is fs cs w hx hT hM hck hlen
  · exact rw_list n s is fs hi cs w hx hT hM hck hlen
  · exact rw_obj n s is fs hf cs w hx hT hM hck hlen
mutual
theorem rwV : ∀ x : V, RwAt x
  | .mk k n s is fs => rw_all k n s is fs (rwL is) (rwF fs)
theorem rwL : ∀ l : List V, ∀ x ∈ l, RwAt x
  | [] => fun _ h => by cases h
  | y :: l => fun x h => (List.mem_cons.1 h).elim (fun e => e ▸ rwV y) (fun h => rwL l x h)
theorem rwF : ∀ l : List F, ∀ f ∈ l, RwAt (vlF f)
  | [] => fun _ h => by cases h
  | .mk nm y :: l => fun f h => (List.mem_cons.1 h).elim (fun e => by rw [e]; exact rwV y) (fun h => rwF l f h)
end
end Fd
end Go.Proofs.YtkjgifhklajifaaDoor
