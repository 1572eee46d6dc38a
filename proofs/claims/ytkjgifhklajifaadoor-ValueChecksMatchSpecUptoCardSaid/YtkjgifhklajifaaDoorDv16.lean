/- Within, printable and inner of the reference. Printed by gen_rval.py. parts of the reference. Printed by gen_rval.py. value.Compare and the reference's Compare, walked. checkPart of the reference. Printed by gen_rval.py. -/
import Derived.Test.YtkjgifhklajifaaDoorDv09
import Derived.Test.YtkjgifhklajifaaDoorDv05
import Derived.Test.YtkjgifhklajifaaDoorDv04
import Derived.Test.YtkjgifhklajifaaDoorDv01
import Derived.Test.YtkjgifhklajifaaDoorDv03
import Derived.Maps.AppendAt
import Derived.Test.YtkjgifhklajifaaDoorDv00
import Derived.Deep.RegionHeld3
namespace Go.Proofs.YtkjgifhklajifaaDoor
open Go.RowKit
namespace Fd
open _root_.Go.Proofs.YtkjgifhklajifaaDoor.Nt (RH RH.cell RH.box RH.lt RH.new RH.ext RH.fre RH.set RH.other)
open _root_.Go.Proofs.YtkjgifhklajifaaDoor.Rw (All2 All2.get All2.length All2.append All2.mono fl_len wpList_load_agg wp_stored)
theorem lenL_le : ∀ l : List V, l.length ≤ pNL l
  | [] => Nat.zero_le _
  | x :: l => by
    have h1 := pN_pos x
    have h2 := lenL_le l
    rw [List.length_cons]
    simp only [pNL]
    omega
def inB (v lo hi : Int) : Bool := decide (lo ≤ v) && decide (v ≤ hi)
set_option maxRecDepth 100000 in
set_option maxHeartbeats 8000000 in
theorem within_at (v lo hi : Int) (w : World) : Calls Tryd.prog 53 #[.int .i64 v, .int .i64 lo, .int .i64 hi] w fun e w' => e = .returned (.bool (inB v lo hi)) ∧ w = w' := by
  have H1 : Hid (v < lo → inB v lo hi = false) := Lib.hid (fun h => by unfold inB; rw [decide_eq_false (by omega)]; rfl)
  have H2 : Hid (lo ≤ v → v ≤ hi → inB v lo hi = true) := Lib.hid (fun h h' => by unfold inB; rw [decide_eq_true h, decide_eq_true h']; rfl)
  have H3 : Hid (hi < v → inB v lo hi = false) := Lib.hid (fun h => by unfold inB; rw [decide_eq_false (show ¬ v ≤ hi by omega), Bool.and_false])
  generalize inB v lo hi = r at *
  go_enter Tryd.func53, Tryd.ntmps53
  by_cases h : lo ≤ v
  · by_cases h' : v ≤ hi
    · have HN := Lib.hid (H2.out h h')
      clear H1 H2 H3
      go_wp2
      go_ret
      exact ⟨ret_bool (by rw [HN.out]; try simp), rfl⟩
    · have HN := Lib.hid (H3.out (by omega))
      clear H1 H2 H3
      go_wp2
      go_ret
      exact ⟨ret_bool (by rw [HN.out]; try simp [h']), rfl⟩
  · have HN := Lib.hid (H1.out (by omega))
    clear H1 H2 H3
    go_wp2
    go_ret
    exact ⟨ret_bool (by rw [HN.out]; try simp), rfl⟩
set_option maxRecDepth 100000 in
set_option maxHeartbeats 8000000 in
theorem printable_at (s : ByteArray) (hs : s.size ≤ maxLen) (w : World) : Calls Tryd.prog 54 #[.string s] w fun e w' => e = .returned (.bool (seenB s)) ∧ w = w' := by
  unfold maxLen at hs
  go_enter Tryd.func54, Tryd.ntmps54
  go_wp2
  go_loop [6] (fun i => ∃ k : Nat, k ≤ s.size ∧ i = .int .i64 k ∧ Hid ((s.data.toList.take k).all seenC = true)) (fun i => s.size - (intOf i).toNat)
  case atStart => exact ⟨0, by omega, rfl, rfl⟩
  case round =>
    obtain ⟨k, hk, rfl, HA⟩ := hrel
    by_cases hlt : k < s.size
    · by_cases h1 : (s[k].toNat : Int) < 32
      · have HW : Hid (seenB s = false) := Lib.hid (all_not seenC _ _ hlt (by unfold seenC; simp; omega))
        go_wp2
        go_ret
        exact ⟨ret_bool HW.out.symm, rfl⟩
      · by_cases h2 : 126 < (s[k].toNat : Int)
        · have HW : Hid (seenB s = false) := Lib.hid (all_not seenC _ _ hlt (by unfold seenC; simp; omega))
          go_wp2
          go_ret
          exact ⟨ret_bool HW.out.symm, rfl⟩
        · have HW : Hid (seenC s[k] = true) := by exact (by unfold seenC; simp; omega : seenC s[k] = true)
          go_wp2
          go_round
          case rel => exact ⟨k + 1, by omega, by go_num, all_snoc _ _ _ hlt HA.out HW.out⟩
          case measure => simp [intOf]; omega
    · have HW : Hid (seenB s = true) := Lib.hid (all_end seenC _ _ hlt HA.out)
      go_wp2
      go_ret
      exact ⟨ret_bool HW.out.symm, rfl⟩
/-- a row of values of the call's own: what lies behind them lies ahead of the call -/
structure OwnV (w0 w : World) (l : List V) (v : Value) (E : List (List Value)) : Prop where
  own : w.ownsRow w0.heap.size 25 5 v l.length E.flatten
  rep : All2 (RepV w0) l E
theorem OwnV.ext {w0 w w' : World} {l : List V} {v : Value} {E : List (List Value)} (h : OwnV w0 w l v E) (hb : Below w.heap.size w w') : OwnV w0 w' l v E := ⟨own_keep h.own (Rw.Kept.below hb), h.rep⟩
theorem OwnV.five {w0 w : World} {l : List V} {v : Value} {E : List (List Value)} (h : OwnV w0 w l v E) : ∀ c ∈ E, c.length = 5 := all_len (fun _ _ => RepV.len) h.rep
theorem OwnV.sl {w0 w : World} {l : List V} {v : Value} {E : List (List Value)} (h : OwnV w0 w l v E) : Sl w v l.length E.flatten := Sl.ofOwn h.own
theorem wpList_snocV {ops : Array Oper} {rest : List Oper} {o : Oper} {a : Act} {Q : Exit → Act → World → Prop} {w w0 : World} (hgd : o.guard = none) (s x : Operand)
    (ho : o.op = .call { callee := .builtin .append, args := #[s, x], argTypes := #[22, 22] })
    {l : List V} {v : Value} {E : List (List Value)} {m : V} {c : List Value} {B : Nat} {tB : TypeId}
    (hs : a.eval s = v) (hx : a.eval x = .slice (some ⟨B, 0, none⟩) 1 1) (hO : OwnV w0 w l v E) (hc : RepV w0 m c) (hb : w0.heap.size ≤ w.heap.size)
    (hB : RH w B c.toArray tB) (hn : l.length ≤ 100000000)
    (h : ∀ a7 c7 LN w7, LN = (l ++ [m]).length → w.grownBy w7 v.ownBlock → OwnV w0 w7 (l ++ [m]) (.slice a7 LN c7) (E ++ [c]) → wpList Tryd.prog ops Q rest (a.put o.dst (.slice a7 LN c7)) w7) :
    wpList Tryd.prog ops Q (o :: rest) a w := by
  obtain ⟨J, hJ⟩ : ∃ i, Tryd.prog.info? 25 = some i := by
    cases hq : Tryd.prog.info? 25 with
    | none => have := vI; rw [hq] at this; cases this
    | some i => exact ⟨i, rfl⟩
  have hci := vI
  rw [hJ] at hci
  simp only [Option.map_some, Option.some.injEq, Prod.mk.injEq] at hci
  obtain ⟨hz1, hz2, hz3⟩ := hci
  have hl : c.length = 5 := RepV.len hc
  have hcB : ∀ (j : Nat) (u : Value), c[j]? = some u → w.cell? ((⟨B, 0, none⟩ : Addr).add j) = some u := fun j u hu => by
    rw [add_spot, Nat.zero_add, hB.cell]; exact (List.getElem?_toArray).trans hu
  refine wpList_append_own_at _ hgd s x _ ho w0.heap.size _ J _ 5 80 Tryd.underlying22 hJ hz1 hz2 hz3 rfl (by decide) v l.length E.flatten hs hO.own ⟨B, 0, none⟩ 1 1 c hx (by rw [hl]) hcB (RepV.one hc) (by unfold maxLen; omega) (by omega) hb ?_
  intro v' w' g1 g2 _ g3
  have hO7 : OwnV w0 w' (l ++ [m]) v' (E ++ [c]) := ⟨by rw [List.length_append, List.flatten_append]; simpa using g1, All2.append hO.rep ⟨hc, trivial⟩⟩
  obtain ⟨a7, c7, e7⟩ : ∃ a c, v' = .slice a (l ++ [m]).length c := by
    obtain ⟨a, c, e, _⟩ := hO7.sl
    exact ⟨a, c, e⟩
  subst e7
  exact h a7 c7 _ w' rfl g2 hO7
def InnPost (x : V) (w : World) (e : Ending) (w' : World) : Prop := ∃ (a : Option Addr) (c : Nat) (E : List (List Value)), e = .returned (.slice a (inner x).length c) ∧ OwnV w w' (inner x) (.slice a (inner x).length c) E ∧ Below w.heap.size w w'
set_option maxRecDepth 100000 in
set_option maxHeartbeats 8000000 in
theorem inner_at (x : V) (cs : List Value) (w : World) (hx : RepV w x cs) (hn : pN x ≤ 10000000) : Calls Tryd.prog 51 #[.agg cs.toArray] w (InnPost x w) := by
  have hp := pN_inner x
  have hlen : (inner x).length ≤ pNL (inner x) := lenL_le _
  obtain ⟨k, n, s, is, fs⟩ := x
  obtain ⟨ai, ci, af, cf, EI, EF, rfl, i1, i2, i3, hV⟩ := RepV.open hx
  have HV := Lib.hid hV
  have hL : is.length + fs.length ≤ 10000000 := by
    have : (inner (.mk k n s is fs)).length = is.length + fs.length := by simp [inner, items, fields]
    omega
  have HIN : Hid (inner (.mk k n s is fs) = is ++ fs.map vlF) := Lib.hid rfl
  have hl1 : is.length ≤ 10000000 := by omega
  have hl2 : fs.length ≤ 10000000 := by omega
  clear hx hV i1 i2 i3 hp hlen hn
  show Calls Tryd.prog 51 #[.agg #[.int .i64 k, .int .i64 n, .string s, .slice ai is.length ci, .slice af fs.length cf]] w (InnPost (.mk k n s is fs) w)
  go_enter Tryd.func51, Tryd.ntmps51
  go_upto_region 1 with (fail)
  refine wp_box1 fun W hszW hbW hA => ?_
  have a3 : W.cell? ⟨w.heap.size, 3, none⟩ = some (.slice ai is.length ci) := hA.2 3
  have HA := Lib.hid hA
  have HBW := Lib.hid hbW
  have HCL := Lib.hid (cloneV_at is.length EI.flatten ai ci W (HV.out.si.ext hbW) (by rw [fl_len (all_len (fun _ _ => RepV.len) HV.out.ri), ← All2.length HV.out.ri]) (all_one (fun _ _ => RepV.one) HV.out.ri) (by omega))
  clear hszW hA hbW
  go_wp2_with fail
  refine HCL.out.mono ?_
  rintro e w1 ⟨a', c', rfl, ho, hb1⟩
  have HW1 := Lib.hid (ext_trans HBW.out hb1)
  have HO1 : Hid (OwnV w w1 (is ++ []) (.slice a' (is ++ ([] : List V)).length c') EI) := Lib.hid (by
    rw [List.append_nil]
    exact ⟨Rw.own_mono ho HBW.out.size, HV.out.ri⟩)
  have a4 : w1.cell? ⟨w.heap.size, 4, none⟩ = some (.slice af fs.length cf) := (HA.out.ext hb1).2 4
  clear a3 HCL ho hb1 HA
  obtain ⟨n1, hn1⟩ : ∃ n1, is.length = n1 := ⟨_, rfl⟩
  have HN1 := Lib.hid hn1
  rw [hn1]
  clear hn1
  go_wp2_with fail
  go_loopw [3, 12] (fun v i wr => ∃ (q : Nat) (E : List (List Value)) (a : Option Addr) (c : Nat) (LN : Nat), q ≤ fs.length ∧ i = .int .i64 (q : Int) ∧ v = .slice a LN c ∧ Hid (LN = (is ++ (fs.take q).map vlF).length) ∧ Hid (OwnV w wr (is ++ (fs.take q).map vlF) (.slice a LN c) E) ∧ Hid (Below w.heap.size w wr)) (fun _ i _ => fs.length - (intOf i).toNat)
  case atStart => exact ⟨0, EI, a', c', n1, Nat.zero_le _, rfl, rfl, Lib.hid (by rw [← HN1.out]; simp), Lib.hid (by have := HO1.out; rw [← HN1.out]; simpa using this), HW1⟩
  case round =>
    clear HO1 HW1 HN1
    obtain ⟨q, E, a, c, LN, hq, rfl, rfl, HLN, HO, HW⟩ := hrel
    generalize hXX : wr = X at *
    clear hXX a4
    by_cases hlt : q < fs.length
    · obtain ⟨f, hfu⟩ : ∃ f, fs[q]? = some f := ⟨_, List.getElem?_eq_getElem hlt⟩
      obtain ⟨cy, hcy, hry0⟩ := All2.get HV.out.rf hfu
      have hry := RepF.ext HW.out hry0
      obtain ⟨p, o, e0, hp0, hcell⟩ := sl_elem (HV.out.sf.ext HW.out) (all_len (fun _ _ => RepF.len) HV.out.rf) (by omega) hcy
      subst e0
      obtain ⟨nm, y⟩ := f
      have hry2 := hry0
      simp only [RepF] at hry2
      obtain ⟨cv5, rfl, hnm, hrv⟩ := hry2
      obtain ⟨ky, ny, sy, a1, m1, r1, a2, m2, r2, rfl⟩ := V5 hrv
      have HFU := Lib.hid hfu
      have HRV := Lib.hid hrv
      have HINF := Lib.hid (f_info hry)
      have HONE := Lib.hid (all_arr (RepF.one hry))
      have hqi : (q : Int) < (fs.length : Int) := by omega
      clear hfu hcy hry0 hry hnm hrv hp0
      go_upto_region 5 with (first | (refine wpList_load_agg rfl _ _ rfl p (o + q * 6) (by rfl) [.string nm, .int .i64 ky, .int .i64 ny, .string sy, .slice a1 m1 r1, .slice a2 m2 r2] (fun j v hj => by rw [Nat.add_assoc]; exact hcell j v hj) _ Tryd.underlying44 rfl HINF.out ?_) | (refine wpList_store_row rfl _ _ _ rfl X.heap.size #[.string nm, .int .i64 ky, .int .i64 ny, .string sy, .slice a1 m1 r1, .slice a2 m2 r2] rfl rfl _ _ (RH.new _ _ _) HINF.out rfl HONE.out ?_))
      refine wp_stored fun Y hbY hRf => ?_
      have HOY := Lib.hid (HO.out.ext hbY)
      have HWY := Lib.hid (ext_trans HW.out hbY)
      have f1 : Y.cell? ⟨X.heap.size, 1, none⟩ = some (.int .i64 ky) := hRf.cell 1
      have f2 : Y.cell? ⟨X.heap.size, 2, none⟩ = some (.int .i64 ny) := hRf.cell 2
      have f3 : Y.cell? ⟨X.heap.size, 3, none⟩ = some (.string sy) := hRf.cell 3
      have f4 : Y.cell? ⟨X.heap.size, 4, none⟩ = some (.slice a1 m1 r1) := hRf.cell 4
      have f5 : Y.cell? ⟨X.heap.size, 5, none⟩ = some (.slice a2 m2 r2) := hRf.cell 5
      generalize X.heap.size = fb at *
      have HLL : Hid ((is ++ (fs.take q).map vlF).length ≤ 100000000) := Lib.hid (by rw [List.length_append, List.length_map, List.length_take]; omega)
      have HTK : Hid (is ++ (fs.take (q + 1)).map vlF = (is ++ (fs.take q).map vlF) ++ [y]) := Lib.hid (by rw [take_one HFU.out, List.map_append, ← List.append_assoc]; rfl)
      clear hbY hRf hcell HO HW HINF HONE
      go_wp2_with (at_builtin; refine wpList_snocV (w0 := w) (l := is ++ (fs.take q).map vlF) rfl _ _ rfl rfl rfl (HOY.out.ext (ext_alloc _ _)) HRV.out (Nat.le_trans HWY.out.size (ext_alloc _ _).size) (RH.new _ _ _) HLL.out ?_; intro a7 c7 LN7 w7 hLN7 hg7 hO7; have HLN7 := Lib.hid hLN7; have HO7 := Lib.hid hO7; have HG7 := Lib.hid hg7; clear hLN7 hO7 hg7)
      have HW7 : Hid (Below w.heap.size w w7) := Lib.hid ((ext_trans HWY.out (ext_alloc _ _)).grown HG7.out (Nat.le_trans HWY.out.size (ext_alloc _ _).size) (fun q9 h9 => (Rw.own_base HOY.out.own q9 h9).1))
      go_roundw
      case rel => exact ⟨q + 1, _, a7, c7, LN7, by omega, by go_num, rfl, Lib.hid (by rw [HTK.out]; exact HLN7.out), Lib.hid (by rw [HTK.out]; exact HO7.out), HW7⟩
      case measure => simp [intOf]; omega
    · obtain rfl : q = fs.length := by omega
      have HF : Hid (LN = (inner (.mk k n s is fs)).length) := Lib.hid (by rw [HLN.out, HIN.out, List.take_length])
      have HOF : Hid (OwnV w X (inner (.mk k n s is fs)) (.slice a LN c) E) := Lib.hid (by have := HO.out; rw [List.take_length] at this; rw [HIN.out]; exact this)
      clear HO HLN
      go_wp2_with fail
      go_ret
      have := HF.out
      subst this
      exact ⟨a, c, E, rfl, HOF.out, HW.out⟩
end Fd
end Go.Proofs.YtkjgifhklajifaaDoor
namespace Go.Proofs.YtkjgifhklajifaaDoor
open Go.RowKit
namespace Fd
open _root_.Go.Proofs.YtkjgifhklajifaaDoor.Nt (RH RH.cell RH.box RH.lt RH.new RH.ext RH.fre RH.set RH.other)
open _root_.Go.Proofs.YtkjgifhklajifaaDoor.Rw (All2 All2.get All2.length wpList_load_agg wp_stored)
def PrtPost (level : Nat) (x : V) (w : World) (e : Ending) (w' : World) : Prop := ∃ (n : Int) (d : Bool), e = .returned (.tuple #[.int .i64 n, .bool d]) ∧ RefP level x n d ∧ Below w.heap.size w w'
def PartsAt (x : V) : Prop := ∀ (level : Nat) (cs : List Value) (w : World), RepV w x cs → pN x ≤ 1048576 → 1 ≤ level → level ≤ 9 → Calls Tryd.prog 25 #[.agg cs.toArray, .int .i64 (level : Int)] w (PrtPost level x w)
theorem CntI.up {level : Nat} {v : V} {done rest : List V} {n : Int} {d : Bool} (h : CntI level v done n d) (hin : inner v = done ++ rest) : n ≤ pN v := by
  have h1 := h.hi
  have h2 := pN_inner v
  rw [hin, pNL_append] at h2
  omega
set_option maxRecDepth 100000 in
set_option maxHeartbeats 8000000 in
theorem parts_step (x : V) (HI0 : ∀ y ∈ inner x, PartsAt y) : PartsAt x := by
  intro level cs w hx hpn hl1 hl9
  obtain ⟨k1, n1, s1, b1, b2, b3, b4, b5, b6, rfl⟩ := V5 hx
  have HX := Lib.hid hx
  have HI := Lib.hid HI0
  have HPN := Lib.hid hpn
  have HL := Lib.hid (And.intro hl1 hl9)
  have HS := Lib.hid (CntI.start (v := x) hl1)
  have hv1 : (1 : Int) ≤ (level : Int) := by omega
  have hv9 : (level : Int) ≤ 9 := by omega
  clear hx HI0 hpn hl1 hl9
  go_enter Tryd.func25, Tryd.ntmps25
  go_upto_region 1 with (fail)
  refine wp_box1 fun W hszW hbW hA => ?_
  have a0 : W.cell? ⟨w.heap.size, 0, none⟩ = some (.int .i64 k1) := hA.2 0
  have a1 : W.cell? ⟨w.heap.size, 1, none⟩ = some (.int .i64 n1) := hA.2 1
  have a2 : W.cell? ⟨w.heap.size, 2, none⟩ = some (.string s1) := hA.2 2
  have a3 : W.cell? ⟨w.heap.size, 3, none⟩ = some (.slice b1 b2 b3) := hA.2 3
  have a4 : W.cell? ⟨w.heap.size, 4, none⟩ = some (.slice b4 b5 b6) := hA.2 4
  have HBW := Lib.hid hbW
  clear hszW hA hbW
  by_cases h8 : 8 < (level : Int)
  · have HD : Hid (decide (8 < level) = true) := Lib.hid (decide_eq_true (by omega))
    rw [HD.out] at HS
    clear HD
    go_wp2_with fail
    refine (inner_at x _ W (RepV.ext HBW.out HX.out) (Nat.le_trans HPN.out (by omega))).mono ?_
    rintro e w1 ⟨a, c, E, rfl, hO, hb1⟩
    have HO1 := Lib.hid hO
    have HW1 := Lib.hid hb1
    have HLB : Hid ((inner x).length ≤ 1048576) := Lib.hid (by have h1 := lenL_le (inner x); have h2 := pN_inner x; have := HPN.out; omega)
    obtain ⟨l, hl⟩ : ∃ l, inner x = l := ⟨_, rfl⟩
    have HIN := Lib.hid hl
    rw [hl] at HO1 HLB ⊢
    have hll : l.length ≤ 1048576 := HLB.out
    clear hl a0 a1 a2 a3 a4 hO hb1
    go_wp2_with fail
    go_loopw [6, 7, 17] (fun v6 v7 i wr => ∃ (q : Nat) (n : Int) (d : Bool), q ≤ l.length ∧ v6 = .int .i64 n ∧ v7 = .bool d ∧ i = .int .i64 (q : Int) ∧ (1 ≤ n ∧ n ≤ 1048576) ∧ Hid (CntI level x (l.take q) n d) ∧ Hid (Below W.heap.size W wr) ∧ Hid (OwnV W wr l (.slice a l.length c) E)) (fun _ _ i _ => l.length - (intOf i).toNat)
    case atStart => exact ⟨0, 1, true, Nat.zero_le _, rfl, rfl, rfl, ⟨by omega, by omega⟩, Lib.hid (by simpa using HS.out), HW1, HO1⟩
    case round =>
      clear HO1 HW1 HS
      obtain ⟨q, n, d, hq, rfl, rfl, rfl, hnb, HC, HW, HO⟩ := hrel
      obtain ⟨hn1, hn2⟩ := hnb
      generalize hXX : wr = X at *
      clear hXX
      by_cases hlt : q < l.length
      · obtain ⟨y, hy⟩ : ∃ y, l[q]? = some y := ⟨_, List.getElem?_eq_getElem hlt⟩
        obtain ⟨cy, hcy, hry0⟩ := All2.get HO.out.rep hy
        obtain ⟨p, o, e0, hp0, hcell⟩ := sl_elem HO.out.sl HO.out.five (by omega) hcy
        subst e0
        have HRY : Hid (RepV X y cy) := Lib.hid (RepV.ext HW.out hry0)
        obtain ⟨ky, ny, sy, a1, m1, r1, a2, m2, r2, rfl⟩ := V5 hry0
        have HYU := Lib.hid hy
        have HINF := Lib.hid (v_info hry0)
        have HONE := Lib.hid (all_arr (RepV.one hry0))
        have hqi : (q : Int) < (l.length : Int) := by omega
        clear hy hcy hry0 hp0
        go_upto_region 5 with (first | (refine wpList_load_agg rfl _ _ rfl p (o + q * 5) (by rfl) [.int .i64 ky, .int .i64 ny, .string sy, .slice a1 m1 r1, .slice a2 m2 r2] (fun j v hj => by rw [Nat.add_assoc]; exact hcell j v hj) _ Tryd.underlying25 rfl HINF.out ?_) | (refine wpList_store_row rfl _ _ _ rfl X.heap.size #[.int .i64 ky, .int .i64 ny, .string sy, .slice a1 m1 r1, .slice a2 m2 r2] rfl rfl _ _ (RH.new _ _ _) HINF.out rfl HONE.out ?_))
        refine wp_stored fun Y hbY hRf => ?_
        have HOY := Lib.hid (HO.out.ext hbY)
        have HWY := Lib.hid (ext_trans HW.out hbY)
        have HRY2 := Lib.hid (RepV.ext hbY HRY.out)
        have f0 : Y.cell? ⟨X.heap.size, 0, none⟩ = some (.int .i64 ky) := hRf.cell 0
        have f1 : Y.cell? ⟨X.heap.size, 1, none⟩ = some (.int .i64 ny) := hRf.cell 1
        have f2 : Y.cell? ⟨X.heap.size, 2, none⟩ = some (.string sy) := hRf.cell 2
        have f3 : Y.cell? ⟨X.heap.size, 3, none⟩ = some (.slice a1 m1 r1) := hRf.cell 3
        have f4 : Y.cell? ⟨X.heap.size, 4, none⟩ = some (.slice a2 m2 r2) := hRf.cell 4
        generalize X.heap.size = fb at *
        clear hbY hRf hcell HO HW HINF HONE HRY
        by_cases hd : d = true
        · subst hd
          have HFN : Hid (RefP level x n true) := Lib.hid (CntI.brk (rest := l.drop q) (by rw [HIN.out, List.take_append_drop]) HC.out (.inl rfl))
          go_wp2_with fail
          go_ret2
          exact ⟨n, true, rfl, HFN.out, ext_trans HBW.out HWY.out⟩
        · obtain rfl : d = false := by simpa using hd
          by_cases h1000 : 1000 < n
          · have HFN : Hid (RefP level x n false) := Lib.hid (CntI.brk (rest := l.drop q) (by rw [HIN.out, List.take_append_drop]) HC.out (.inr h1000))
            go_wp2_with fail
            go_ret2
            exact ⟨n, false, rfl, HFN.out, ext_trans HBW.out HWY.out⟩
          · have hlv : level + 1 ≤ 9 := by
              have := (HC.out.ok (by simp; omega)).2.1
              omega
            have HPY : Hid (pN y ≤ 1048576) := Lib.hid (by
              have h1 := (pNL_mem (List.mem_of_getElem? HYU.out)).1
              have h2 := pN_inner x
              rw [HIN.out] at h2
              have := HPN.out
              omega)
            have HRC : Hid (Calls Tryd.prog 25 #[.agg #[.int .i64 ky, .int .i64 ny, .string sy, .slice a1 m1 r1, .slice a2 m2 r2], .int .i64 ((level : Int) + 1)] Y (PrtPost (level + 1) y Y)) := Lib.hid (by
              have := HI.out y (by rw [HIN.out]; exact List.mem_of_getElem? HYU.out) (level + 1) _ Y HRY2.out HPY.out (by omega) hlv
              rw [show ((level + 1 : Nat) : Int) = (level : Int) + 1 by omega] at this
              exact this)
            have hwr : IntKind.i64.wrap ((level : Int) + 1) = (level : Int) + 1 := by rw [IntKind.wrap_i64]; omega
            go_wp2_with fail
            refine HRC.out.mono ?_
            rintro e w3 ⟨m, e', rfl, hrp, hb3⟩
            have HRP := Lib.hid hrp
            have hm1 : 1 ≤ m := hrp.2.2.1
            have hm2 : m ≤ 1048576 := by have := hrp.2.2.2; have := HPY.out; omega
            have HOZ := Lib.hid (HOY.out.ext hb3)
            have HWZ := Lib.hid (ext_trans HWY.out hb3)
            have HCN : Hid (CntI level x (l.take (q + 1)) (n + m) (false || e')) := Lib.hid (by
              rw [take_one HYU.out]
              exact CntI.step (rest := l.drop (q + 1)) (by
                rw [HIN.out]
                obtain ⟨hq9, e9⟩ := List.getElem?_eq_some_iff.1 HYU.out
                rw [← e9, ← List.drop_eq_getElem_cons hq9, List.take_append_drop]) HC.out (by simp; omega) HL.out.1 HRP.out)
            have hnm : n + m ≤ 1048576 := by
              have := CntI.up (rest := l.drop (q + 1)) HCN.out (by rw [HIN.out, List.take_append_drop])
              have := HPN.out
              omega
            have hwr2 : IntKind.i64.wrap (n + m) = n + m := by rw [IntKind.wrap_i64]; omega
            rw [Bool.false_or] at HCN
            clear hrp hb3 HRC HC HRY2 f0 f1 f2 f3 f4
            go_wp2_with fail
            go_roundw
            case rel => exact ⟨q + 1, n + m, e', by omega, by go_num, rfl, by go_num, ⟨by omega, hnm⟩, HCN, HWZ, HOZ⟩
            case measure => simp [intOf]; omega
      · obtain rfl : q = l.length := by omega
        have HFN : Hid (RefP level x n d) := Lib.hid (CntI.fin (by rw [HIN.out]; have := HC.out; rwa [List.take_length] at this) HL.out.1)
        go_wp2_with fail
        go_ret2
        exact ⟨n, d, rfl, HFN.out, ext_trans HBW.out HW.out⟩
  · have HD : Hid (decide (8 < level) = false) := Lib.hid (decide_eq_false (by omega))
    rw [HD.out] at HS
    clear HD
    go_wp2_with fail
    refine (inner_at x _ W (RepV.ext HBW.out HX.out) (Nat.le_trans HPN.out (by omega))).mono ?_
    rintro e w1 ⟨a, c, E, rfl, hO, hb1⟩
    have HO1 := Lib.hid hO
    have HW1 := Lib.hid hb1
    have HLB : Hid ((inner x).length ≤ 1048576) := Lib.hid (by have h1 := lenL_le (inner x); have h2 := pN_inner x; have := HPN.out; omega)
    obtain ⟨l, hl⟩ : ∃ l, inner x = l := ⟨_, rfl⟩
    have HIN := Lib.hid hl
    rw [hl] at HO1 HLB ⊢
    have hll : l.length ≤ 1048576 := HLB.out
    clear hl a0 a1 a2 a3 a4 hO hb1
    go_wp2_with fail
    go_loopw [6, 7, 17] (fun v6 v7 i wr => ∃ (q : Nat) (n : Int) (d : Bool), q ≤ l.length ∧ v6 = .int .i64 n ∧ v7 = .bool d ∧ i = .int .i64 (q : Int) ∧ (1 ≤ n ∧ n ≤ 1048576) ∧ Hid (CntI level x (l.take q) n d) ∧ Hid (Below W.heap.size W wr) ∧ Hid (OwnV W wr l (.slice a l.length c) E)) (fun _ _ i _ => l.length - (intOf i).toNat)
    case atStart => exact ⟨0, 1, false, Nat.zero_le _, rfl, rfl, rfl, ⟨by omega, by omega⟩, Lib.hid (by simpa using HS.out), HW1, HO1⟩
    case round =>
      clear HO1 HW1 HS
      obtain ⟨q, n, d, hq, rfl, rfl, rfl, hnb, HC, HW, HO⟩ := hrel
      obtain ⟨hn1, hn2⟩ := hnb
      generalize hXX : wr = X at *
      clear hXX
      by_cases hlt : q < l.length
      · obtain ⟨y, hy⟩ : ∃ y, l[q]? = some y := ⟨_, List.getElem?_eq_getElem hlt⟩
        obtain ⟨cy, hcy, hry0⟩ := All2.get HO.out.rep hy
        obtain ⟨p, o, e0, hp0, hcell⟩ := sl_elem HO.out.sl HO.out.five (by omega) hcy
        subst e0
        have HRY : Hid (RepV X y cy) := Lib.hid (RepV.ext HW.out hry0)
        obtain ⟨ky, ny, sy, a1, m1, r1, a2, m2, r2, rfl⟩ := V5 hry0
        have HYU := Lib.hid hy
        have HINF := Lib.hid (v_info hry0)
        have HONE := Lib.hid (all_arr (RepV.one hry0))
        have hqi : (q : Int) < (l.length : Int) := by omega
        clear hy hcy hry0 hp0
        go_upto_region 5 with (first | (refine wpList_load_agg rfl _ _ rfl p (o + q * 5) (by rfl) [.int .i64 ky, .int .i64 ny, .string sy, .slice a1 m1 r1, .slice a2 m2 r2] (fun j v hj => by rw [Nat.add_assoc]; exact hcell j v hj) _ Tryd.underlying25 rfl HINF.out ?_) | (refine wpList_store_row rfl _ _ _ rfl X.heap.size #[.int .i64 ky, .int .i64 ny, .string sy, .slice a1 m1 r1, .slice a2 m2 r2] rfl rfl _ _ (RH.new _ _ _) HINF.out rfl HONE.out ?_))
        refine wp_stored fun Y hbY hRf => ?_
        have HOY := Lib.hid (HO.out.ext hbY)
        have HWY := Lib.hid (ext_trans HW.out hbY)
        have HRY2 := Lib.hid (RepV.ext hbY HRY.out)
        have f0 : Y.cell? ⟨X.heap.size, 0, none⟩ = some (.int .i64 ky) := hRf.cell 0
        have f1 : Y.cell? ⟨X.heap.size, 1, none⟩ = some (.int .i64 ny) := hRf.cell 1
        have f2 : Y.cell? ⟨X.heap.size, 2, none⟩ = some (.string sy) := hRf.cell 2
        have f3 : Y.cell? ⟨X.heap.size, 3, none⟩ = some (.slice a1 m1 r1) := hRf.cell 3
        have f4 : Y.cell? ⟨X.heap.size, 4, none⟩ = some (.slice a2 m2 r2) := hRf.cell 4
        generalize X.heap.size = fb at *
        clear hbY hRf hcell HO HW HINF HONE HRY
        by_cases hd : d = true
        · subst hd
          have HFN : Hid (RefP level x n true) := Lib.hid (CntI.brk (rest := l.drop q) (by rw [HIN.out, List.take_append_drop]) HC.out (.inl rfl))
          go_wp2_with fail
          go_ret2
          exact ⟨n, true, rfl, HFN.out, ext_trans HBW.out HWY.out⟩
        · obtain rfl : d = false := by simpa using hd
          by_cases h1000 : 1000 < n
          · have HFN : Hid (RefP level x n false) := Lib.hid (CntI.brk (rest := l.drop q) (by rw [HIN.out, List.take_append_drop]) HC.out (.inr h1000))
            go_wp2_with fail
            go_ret2
            exact ⟨n, false, rfl, HFN.out, ext_trans HBW.out HWY.out⟩
          · have hlv : level + 1 ≤ 9 := by
              have := (HC.out.ok (by simp; omega)).2.1
              omega
            have HPY : Hid (pN y ≤ 1048576) := Lib.hid (by
              have h1 := (pNL_mem (List.mem_of_getElem? HYU.out)).1
              have h2 := pN_inner x
              rw [HIN.out] at h2
              have := HPN.out
              omega)
            have HRC : Hid (Calls Tryd.prog 25 #[.agg #[.int .i64 ky, .int .i64 ny, .string sy, .slice a1 m1 r1, .slice a2 m2 r2], .int .i64 ((level : Int) + 1)] Y (PrtPost (level + 1) y Y)) := Lib.hid (by
              have := HI.out y (by rw [HIN.out]; exact List.mem_of_getElem? HYU.out) (level + 1) _ Y HRY2.out HPY.out (by omega) hlv
              rw [show ((level + 1 : Nat) : Int) = (level : Int) + 1 by omega] at this
              exact this)
            have hwr : IntKind.i64.wrap ((level : Int) + 1) = (level : Int) + 1 := by rw [IntKind.wrap_i64]; omega
            go_wp2_with fail
            refine HRC.out.mono ?_
            rintro e w3 ⟨m, e', rfl, hrp, hb3⟩
            have HRP := Lib.hid hrp
            have hm1 : 1 ≤ m := hrp.2.2.1
            have hm2 : m ≤ 1048576 := by have := hrp.2.2.2; have := HPY.out; omega
            have HOZ := Lib.hid (HOY.out.ext hb3)
            have HWZ := Lib.hid (ext_trans HWY.out hb3)
            have HCN : Hid (CntI level x (l.take (q + 1)) (n + m) (false || e')) := Lib.hid (by
              rw [take_one HYU.out]
              exact CntI.step (rest := l.drop (q + 1)) (by
                rw [HIN.out]
                obtain ⟨hq9, e9⟩ := List.getElem?_eq_some_iff.1 HYU.out
                rw [← e9, ← List.drop_eq_getElem_cons hq9, List.take_append_drop]) HC.out (by simp; omega) HL.out.1 HRP.out)
            have hnm : n + m ≤ 1048576 := by
              have := CntI.up (rest := l.drop (q + 1)) HCN.out (by rw [HIN.out, List.take_append_drop])
              have := HPN.out
              omega
            have hwr2 : IntKind.i64.wrap (n + m) = n + m := by rw [IntKind.wrap_i64]; omega
            rw [Bool.false_or] at HCN
            clear hrp hb3 HRC HC HRY2 f0 f1 f2 f3 f4
            go_wp2_with fail
            go_roundw
            case rel => exact ⟨q + 1, n + m, e', by omega, by go_num, rfl, by go_num, ⟨by omega, hnm⟩, HCN, HWZ, HOZ⟩
            case measure => simp [intOf]; omega
      · obtain rfl : q = l.length := by omega
        have HFN : Hid (RefP level x n d) := Lib.hid (CntI.fin (by rw [HIN.out]; have := HC.out; rwa [List.take_length] at this) HL.out.1)
        go_wp2_with fail
        go_ret2
        exact ⟨n, d, rfl, HFN.out, ext_trans HBW.out HW.out⟩
mutual
theorem partsV : ∀ x : V, PartsAt x
  | .mk k n s is fs => parts_step _ (fun y hy => (List.mem_append.1 hy).elim (fun h => partsL is y h) (fun h => by
      obtain ⟨f, hf, e⟩ := List.mem_map.1 h
      rw [← e]
      exact partsF fs f hf))
theorem partsL : ∀ l : List V, ∀ x ∈ l, PartsAt x
  | [] => fun _ h => by cases h
  | y :: l => fun x h => (List.mem_cons.1 h).elim (fun e => by rw [e]; exact partsV y) (fun h => partsL l x h)
theorem partsF : ∀ l : List F, ∀ f ∈ l, PartsAt (vlF f)
  | [] => fun _ h => by cases h
  | .mk nm y :: l => fun f h => (List.mem_cons.1 h).elim (fun e => by rw [e]; exact partsV y) (fun h => partsF l f h)
end
end Fd
end Go.Proofs.YtkjgifhklajifaaDoor
namespace Go.Proofs.YtkjgifhklajifaaDoor
open Go.RowKit

/-- What a comparison's call leaves. -/
def IntPost (n : Int) (w : World) (e : Ending) (w' : World) : Prop := e = .returned (.int .i64 n) ∧ Below w.heap.size w w'

end Go.Proofs.YtkjgifhklajifaaDoor
namespace Go.Proofs.YtkjgifhklajifaaDoor
open Go.RowKit
namespace Fd
set_option maxRecDepth 100000 in
set_option maxHeartbeats 8000000 in
theorem refPart_at (k n : Int) (s : ByteArray) (ai af : Option Addr) (ni nf ci cf : Nat) (h1 : ni ≤ maxLen) (h2 : nf ≤ maxLen) (h3 : s.size ≤ maxLen) (w : World) :
    Calls Tryd.prog 52 #[.agg #[.int .i64 k, .int .i64 n, .string s, .slice ai ni ci, .slice af nf cf]] w (IntPost (ownF k n s ni nf) w) := by
  have HS3 := Lib.hid h3
  unfold maxLen at h1 h2 h3
  have HOF : Hid (ownF k n s ni nf = if k < 0 ∨ 5 < k then 4 else if ((decide (n ≠ 0) && decide (k ≠ 1) && decide (k ≠ 2)) || (decide (s.toList ≠ []) && decide (k ≠ 3)) || (decide (0 < ni) && decide (k ≠ 4)) || (decide (0 < nf) && decide (k ≠ 5))) = true then 3
      else if k = 1 ∧ n ≠ 0 ∧ n ≠ 1 ∨ k = 2 ∧ (n ≤ -1000000000000000 ∨ 1000000000000000 ≤ n) then 1 else if 500 < s.size then 2 else if seenB s = false then 1 else if 100 < ni ∨ 100 < nf then 2 else 0) := Lib.hid (by
    have e1 : decide (s.toList ≠ []) = decide (s.size ≠ 0) := by rw [decide_eq_decide]; exact not_congr toList_nil
    rw [e1]; rfl)
  generalize ownF k n s ni nf = B at *
  go_enter Tryd.func52, Tryd.ntmps52
  go_upto_region 1 with (fail)
  refine wp_box1 fun W hszW hbW hA => ?_
  have a0 : W.cell? ⟨w.heap.size, 0, none⟩ = some (.int .i64 k) := hA.2 0
  have a1 : W.cell? ⟨w.heap.size, 1, none⟩ = some (.int .i64 n) := hA.2 1
  have a2 : W.cell? ⟨w.heap.size, 2, none⟩ = some (.string s) := hA.2 2
  have a3 : W.cell? ⟨w.heap.size, 3, none⟩ = some (.slice ai ni ci) := hA.2 3
  have a4 : W.cell? ⟨w.heap.size, 4, none⟩ = some (.slice af nf cf) := hA.2 4
  have HB := Lib.hid hbW
  obtain ⟨se, hse⟩ : ∃ b, seenB s = b := ⟨_, rfl⟩
  have HPR : Hid (∀ W9, Calls Tryd.prog 54 #[.string s] W9 fun e w' => e = .returned (.bool se) ∧ W9 = w') := Lib.hid (fun W9 => by rw [← hse]; exact printable_at s HS3.out W9)
  rw [hse] at HOF
  clear hse hszW hA hbW
  by_cases hk : 0 ≤ k ∧ k ≤ 5
  · have hk6 : k = 0 ∨ k = 1 ∨ k = 2 ∨ k = 3 ∨ k = 4 ∨ k = 5 := by omega
    clear hk
    rcases hk6 with rfl | rfl | rfl | rfl | rfl | rfl
    all_goals
      go_wp2_with (first | (go_at_call 53; refine (within_at _ _ _ _).mono ?_; rintro e w' ⟨rfl, rfl⟩) | (go_at_call 54; refine (HPR.out _).mono ?_; rintro e w' ⟨rfl, rfl⟩))
      all_goals go_ret
      all_goals refine ⟨ret_int ?_, HB.out⟩
      all_goals rw [HOF.out]
      all_goals clear a0 a1 a2 a3 a4 HOF HB HPR
      all_goals simp_all [inB]
      all_goals first | done | omega | trace_state
  · have hkb : inB k 0 5 = false := by unfold inB; simp; omega
    go_wp2_with (go_at_call 53; refine (within_at _ _ _ _).mono ?_; rw [hkb]; rintro e w' ⟨rfl, rfl⟩)
    go_ret
    exact ⟨ret_int (by rw [HOF.out, if_pos (by omega)]), HB.out⟩
end Fd
end Go.Proofs.YtkjgifhklajifaaDoor
