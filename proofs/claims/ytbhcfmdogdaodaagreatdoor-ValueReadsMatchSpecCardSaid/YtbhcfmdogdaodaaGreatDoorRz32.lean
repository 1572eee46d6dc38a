/- parts of the reference. Printed by gen_rval.py. value.Compare and the reference's Compare, walked. checkPart of the reference. Printed by gen_rval.py. -/
import Derived.Test.YtbhcfmdogdaodaaGreatDoorRz25
import Derived.Test.YtbhcfmdogdaodaaGreatDoorRz01
import Derived.Deep.RegionHeld3
namespace Go.Proofs.YtbhcfmdogdaodaaGreatDoor
open Go.RowKit
namespace Fd
open _root_.Go.Proofs.YtbhcfmdogdaodaaGreatDoor.Nt (RH RH.cell RH.box RH.lt RH.new RH.ext RH.fre RH.set RH.other)
open _root_.Go.Proofs.YtbhcfmdogdaodaaGreatDoor.Rw (All2 All2.get All2.length wpList_load_agg wp_stored)
def PrtPost (level : Nat) (x : V) (w : World) (e : Ending) (w' : World) : Prop := ∃ (n : Int) (d : Bool), e = .returned (.tuple #[.int .i64 n, .bool d]) ∧ RefP level x n d ∧ Below w.heap.size w w'
def PartsAt (x : V) : Prop := ∀ (level : Nat) (cs : List Value) (w : World), RepV w x cs → pN x ≤ 1048576 → 1 ≤ level → level ≤ 9 → Calls Tryz.prog 31 #[.agg cs.toArray, .int .i64 (level : Int)] w (PrtPost level x w)
theorem CntI.up {level : Nat} {v : V} {done rest : List V} {n : Int} {d : Bool} (h : CntI level v done n d) (hin : inner v = done ++ rest) : n ≤ pN v := by
  have h1 := h.hi
  have h2 := pN_inner v
  rw [hin, pNL_append] at h2
  omega
set_option maxRecDepth 100000 in
set_option maxHeartbeats 8000000 in
theorem parts_step (x : V) (HI0 : ∀ y ∈ inner x, PartsAt y) : PartsAt x := by
  intro level cs w hx hpn hl1 hl9
  obtain ⟨k1, n1, s1, b1, b2, b3, b4, b5, b6, rfl⟩ := V5 hx
  have HX := Lib.hid hx
  have HI := Lib.hid HI0
  have HPN := Lib.hid hpn
  have HL := Lib.hid (And.intro hl1 hl9)
  have HS := Lib.hid (CntI.start (v := x) hl1)
  have hv1 : (1 : Int) ≤ (level : Int) := by omega
  have hv9 : (level : Int) ≤ 9 := by omega
  clear hx HI0 hpn hl1 hl9
  go_enter Tryz.func31, Tryz.ntmps31
  go_upto_region 1 with (fail)
  refine wp_box1 fun W hszW hbW hA => ?_
  have a0 : W.cell? ⟨w.heap.size, 0, none⟩ = some (.int .i64 k1) := hA.2 0
  have a1 : W.cell? ⟨w.heap.size, 1, none⟩ = some (.int .i64 n1) := hA.2 1
  have a2 : W.cell? ⟨w.heap.size, 2, none⟩ = some (.string s1) := hA.2 2
  have a3 : W.cell? ⟨w.heap.size, 3, none⟩ = some (.slice b1 b2 b3) := hA.2 3
  have a4 : W.cell? ⟨w.heap.size, 4, none⟩ = some (.slice b4 b5 b6) := hA.2 4
  have HBW := Lib.hid hbW
  clear hszW hA hbW
  by_cases h8 : 8 < (level : Int)
  · have HD : Hid (decide (8 < level) = true) := Lib.hid (decide_eq_true (by omega))
    rw [HD.out] at HS
    clear HD
    go_wp2_with fail
    refine (inner_at x _ W (RepV.ext HBW.out HX.out) (Nat.le_trans HPN.out (by omega))).mono ?_
    rintro e w1 ⟨a, c, E, rfl, hO, hb1⟩
    have HO1 := Lib.hid hO
    have HW1 := Lib.hid hb1
    have HLB : Hid ((inner x).length ≤ 1048576) := Lib.hid (by have h1 := lenL_le (inner x); have h2 := pN_inner x; have := HPN.out; omega)
    obtain ⟨l, hl⟩ : ∃ l, inner x = l := ⟨_, rfl⟩
    have HIN := Lib.hid hl
    rw [hl] at HO1 HLB ⊢
    have hll : l.length ≤ 1048576 := HLB.out
    clear hl a0 a1 a2 a3 a4 hO hb1
    go_wp2_with fail
    go_loopw [6, 7, 17] (fun v6 v7 i wr => ∃ (q : Nat) (n : Int) (d : Bool), q ≤ l.length ∧ v6 = .int .i64 n ∧ v7 = .bool d ∧ i = .int .i64 (q : Int) ∧ (1 ≤ n ∧ n ≤ 1048576) ∧ Hid (CntI level x (l.take q) n d) ∧ Hid (Below W.heap.size W wr) ∧ Hid (OwnV W wr l (.slice a l.length c) E)) (fun _ _ i _ => l.length - (intOf i).toNat)
    case atStart => exact ⟨0, 1, true, Nat.zero_le _, rfl, rfl, rfl, ⟨by omega, by omega⟩, Lib.hid (by simpa using HS.out), HW1, HO1⟩
    case round =>
      clear HO1 HW1 HS
      obtain ⟨q, n, d, hq, rfl, rfl, rfl, hnb, HC, HW, HO⟩ := hrel
      obtain ⟨hn1, hn2⟩ := hnb
      generalize hXX : wr = X at *
      clear hXX
      by_cases hlt : q < l.length
      · obtain ⟨y, hy⟩ : ∃ y, l[q]? = some y := ⟨_, List.getElem?_eq_getElem hlt⟩
        obtain ⟨cy, hcy, hry0⟩ := All2.get HO.out.rep hy
        obtain ⟨p, o, e0, hp0, hcell⟩ := sl_elem HO.out.sl HO.out.five (by omega) hcy
        subst e0
        have HRY : Hid (RepV X y cy) := Lib.hid (RepV.ext HW.out hry0)
        obtain ⟨ky, ny, sy, a1, m1, r1, a2, m2, r2, rfl⟩ := V5 hry0
        have HYU := Lib.hid hy
        have HINF := Lib.hid (v_info hry0)
        have HONE := Lib.hid (all_arr (RepV.one hry0))
        have hqi : (q : Int) < (l.length : Int) := by omega
        clear hy hcy hry0 hp0
        go_upto_region 5 with (first | (refine wpList_load_agg rfl _ _ rfl p (o + q * 5) (by rfl) [.int .i64 ky, .int .i64 ny, .string sy, .slice a1 m1 r1, .slice a2 m2 r2] (fun j v hj => by rw [Nat.add_assoc]; exact hcell j v hj) _ Tryz.underlying25 rfl HINF.out ?_) | (refine wpList_store_row rfl _ _ _ rfl X.heap.size #[.int .i64 ky, .int .i64 ny, .string sy, .slice a1 m1 r1, .slice a2 m2 r2] rfl rfl _ _ (RH.new _ _ _) HINF.out rfl HONE.out ?_))
        refine wp_stored fun Y hbY hRf => ?_
        have HOY := Lib.hid (HO.out.ext hbY)
        have HWY := Lib.hid (ext_trans HW.out hbY)
        have HRY2 := Lib.hid (RepV.ext hbY HRY.out)
        have f0 : Y.cell? ⟨X.heap.size, 0, none⟩ = some (.int .i64 ky) := hRf.cell 0
        have f1 : Y.cell? ⟨X.heap.size, 1, none⟩ = some (.int .i64 ny) := hRf.cell 1
        have f2 : Y.cell? ⟨X.heap.size, 2, none⟩ = some (.string sy) := hRf.cell 2
        have f3 : Y.cell? ⟨X.heap.size, 3, none⟩ = some (.slice a1 m1 r1) := hRf.cell 3
        have f4 : Y.cell? ⟨X.heap.size, 4, none⟩ = some (.slice a2 m2 r2) := hRf.cell 4
        generalize X.heap.size = fb at *
        clear hbY hRf hcell HO HW HINF HONE HRY
        by_cases hd : d = true
        · subst hd
          have HFN : Hid (RefP level x n true) := Lib.hid (CntI.brk (rest := l.drop q) (by rw [HIN.out, List.take_append_drop]) HC.out (.inl rfl))
          go_wp2_with fail
          go_ret2
          exact ⟨n, true, rfl, HFN.out, ext_trans HBW.out HWY.out⟩
        · obtain rfl : d = false := by simpa using hd
          by_cases h1000 : 1000 < n
          · have HFN : Hid (RefP level x n false) := Lib.hid (CntI.brk (rest := l.drop q) (by rw [HIN.out, List.take_append_drop]) HC.out (.inr h1000))
            go_wp2_with fail
            go_ret2
            exact ⟨n, false, rfl, HFN.out, ext_trans HBW.out HWY.out⟩
          · have hlv : level + 1 ≤ 9 := by
              have := (HC.out.ok (by simp; omega)).2.1
              omega
            have HPY : Hid (pN y ≤ 1048576) := Lib.hid (by
              have h1 := (pNL_mem (List.mem_of_getElem? HYU.out)).1
              have h2 := pN_inner x
              rw [HIN.out] at h2
              have := HPN.out
              omega)
            have HRC : Hid (Calls Tryz.prog 31 #[.agg #[.int .i64 ky, .int .i64 ny, .string sy, .slice a1 m1 r1, .slice a2 m2 r2], .int .i64 ((level : Int) + 1)] Y (PrtPost (level + 1) y Y)) := Lib.hid (by
              have := HI.out y (by rw [HIN.out]; exact List.mem_of_getElem? HYU.out) (level + 1) _ Y HRY2.out HPY.out (by omega) hlv
              rw [show ((level + 1 : Nat) : Int) = (level : Int) + 1 by omega] at this
              exact this)
            have hwr : IntKind.i64.wrap ((level : Int) + 1) = (level : Int) + 1 := by rw [IntKind.wrap_i64]; omega
            go_wp2_with fail
            refine HRC.out.mono ?_
            rintro e w3 ⟨m, e', rfl, hrp, hb3⟩
            have HRP := Lib.hid hrp
            have hm1 : 1 ≤ m := hrp.2.2.1
            have hm2 : m ≤ 1048576 := by have := hrp.2.2.2; have := HPY.out; omega
            have HOZ := Lib.hid (HOY.out.ext hb3)
            have HWZ := Lib.hid (ext_trans HWY.out hb3)
            have HCN : Hid (CntI level x (l.take (q + 1)) (n + m) (false || e')) := Lib.hid (by
              rw [take_one HYU.out]
              exact CntI.step (rest := l.drop (q + 1)) (by
                rw [HIN.out]
                obtain ⟨hq9, e9⟩ := List.getElem?_eq_some_iff.1 HYU.out
                rw [← e9, ← List.drop_eq_getElem_cons hq9, List.take_append_drop]) HC.out (by simp; omega) HL.out.1 HRP.out)
            have hnm : n + m ≤ 1048576 := by
              have := CntI.up (rest := l.drop (q + 1)) HCN.out (by rw [HIN.out, List.take_append_drop])
              have := HPN.out
              omega
            have hwr2 : IntKind.i64.wrap (n + m) = n + m := by rw [IntKind.wrap_i64]; omega
            rw [Bool.false_or] at HCN
            clear hrp hb3 HRC HC HRY2 f0 f1 f2 f3 f4
            go_wp2_with fail
            go_roundw
            case rel => exact ⟨q + 1, n + m, e', by omega, by go_num, rfl, by go_num, ⟨by omega, hnm⟩, HCN, HWZ, HOZ⟩
            case measure => simp [intOf]; omega
      · obtain rfl : q = l.length := by omega
        have HFN : Hid (RefP level x n d) := Lib.hid (CntI.fin (by rw [HIN.out]; have := HC.out; rwa [List.take_length] at this) HL.out.1)
        go_wp2_with fail
        go_ret2
        exact ⟨n, d, rfl, HFN.out, ext_trans HBW.out HW.out⟩
  · have HD : Hid (decide (8 < level) = false) := Lib.hid (decide_eq_false (by omega))
    rw [HD.out] at HS
    clear HD
    go_wp2_with fail
    refine (inner_at x _ W (RepV.ext HBW.out HX.out) (Nat.le_trans HPN.out (by omega))).mono ?_
    rintro e w1 ⟨a, c, E, rfl, hO, hb1⟩
    have HO1 := Lib.hid hO
    have HW1 := Lib.hid hb1
    have HLB : Hid ((inner x).length ≤ 1048576) := Lib.hid (by have h1 := lenL_le (inner x); have h2 := pN_inner x; have := HPN.out; omega)
    obtain ⟨l, hl⟩ : ∃ l, inner x = l := ⟨_, rfl⟩
    have HIN := Lib.hid hl
    rw [hl] at HO1 HLB ⊢
    have hll : l.length ≤ 1048576 := HLB.out
    clear hl a0 a1 a2 a3 a4 hO hb1
    go_wp2_with fail
    go_loopw [6, 7, 17] (fun v6 v7 i wr => ∃ (q : Nat) (n : Int) (d : Bool), q ≤ l.length ∧ v6 = .int .i64 n ∧ v7 = .bool d ∧ i = .int .i64 (q : Int) ∧ (1 ≤ n ∧ n ≤ 1048576) ∧ Hid (CntI level x (l.take q) n d) ∧ Hid (Below W.heap.size W wr) ∧ Hid (OwnV W wr l (.slice a l.length c) E)) (fun _ _ i _ => l.length - (intOf i).toNat)
    case atStart => exact ⟨0, 1, false, Nat.zero_le _, rfl, rfl, rfl, ⟨by omega, by omega⟩, Lib.hid (by simpa using HS.out), HW1, HO1⟩
    case round =>
      clear HO1 HW1 HS
      obtain ⟨q, n, d, hq, rfl, rfl, rfl, hnb, HC, HW, HO⟩ := hrel
      obtain ⟨hn1, hn2⟩ := hnb
      generalize hXX : wr = X at *
      clear hXX
      by_cases hlt : q < l.length
      · obtain ⟨y, hy⟩ : ∃ y, l[q]? = some y := ⟨_, List.getElem?_eq_getElem hlt⟩
        obtain ⟨cy, hcy, hry0⟩ := All2.get HO.out.rep hy
        obtain ⟨p, o, e0, hp0, hcell⟩ := sl_elem HO.out.sl HO.out.five (by omega) hcy
        subst e0
        have HRY : Hid (RepV X y cy) := Lib.hid (RepV.ext HW.out hry0)
        obtain ⟨ky, ny, sy, a1, m1, r1, a2, m2, r2, rfl⟩ := V5 hry0
        have HYU := Lib.hid hy
        have HINF := Lib.hid (v_info hry0)
        have HONE := Lib.hid (all_arr (RepV.one hry0))
        have hqi : (q : Int) < (l.length : Int) := by omega
        clear hy hcy hry0 hp0
        go_upto_region 5 with (first | (refine wpList_load_agg rfl _ _ rfl p (o + q * 5) (by rfl) [.int .i64 ky, .int .i64 ny, .string sy, .slice a1 m1 r1, .slice a2 m2 r2] (fun j v hj => by rw [Nat.add_assoc]; exact hcell j v hj) _ Tryz.underlying25 rfl HINF.out ?_) | (refine wpList_store_row rfl _ _ _ rfl X.heap.size #[.int .i64 ky, .int .i64 ny, .string sy, .slice a1 m1 r1, .slice a2 m2 r2] rfl rfl _ _ (RH.new _ _ _) HINF.out rfl HONE.out ?_))
        refine wp_stored fun Y hbY hRf => ?_
        have HOY := Lib.hid (HO.out.ext hbY)
        have HWY := Lib.hid (ext_trans HW.out hbY)
        have HRY2 := Lib.hid (RepV.ext hbY HRY.out)
        have f0 : Y.cell? ⟨X.heap.size, 0, none⟩ = some (.int .i64 ky) := hRf.cell 0
        have f1 : Y.cell? ⟨X.heap.size, 1, none⟩ = some (.int .i64 ny) := hRf.cell 1
        have f2 : Y.cell? ⟨X.heap.size, 2, none⟩ = some (.string sy) := hRf.cell 2
        have f3 : Y.cell? ⟨X.heap.size, 3, none⟩ = some (.slice a1 m1 r1) := hRf.cell 3
        have f4 : Y.cell? ⟨X.heap.size, 4, none⟩ = some (.slice a2 m2 r2) := hRf.cell 4
        generalize X.heap.size = fb at *
        clear hbY hRf hcell HO HW HINF HONE HRY
        by_cases hd : d = true
        · subst hd
          have HFN : Hid (RefP level x n true) := Lib.hid (CntI.brk (rest := l.drop q) (by rw [HIN.out, List.take_append_drop]) HC.out (.inl rfl))
          go_wp2_with fail
          go_ret2
          exact ⟨n, true, rfl, HFN.out, ext_trans HBW.out HWY.out⟩
        · obtain rfl : d = false := by simpa using hd
          by_cases h1000 : 1000 < n
          · have HFN : Hid (RefP level x n false) := Lib.hid (CntI.brk (rest := l.drop q) (by rw [HIN.out, List.take_append_drop]) HC.out (.inr h1000))
            go_wp2_with fail
            go_ret2
            exact ⟨n, false, rfl, HFN.out, ext_trans HBW.out HWY.out⟩
          · have hlv : level + 1 ≤ 9 := by
              have := (HC.out.ok (by simp; omega)).2.1
              omega
            have HPY : Hid (pN y ≤ 1048576) := Lib.hid (by
              have h1 := (pNL_mem (List.mem_of_getElem? HYU.out)).1
              have h2 := pN_inner x
              rw [HIN.out] at h2
              have := HPN.out
              omega)
            have HRC : Hid (Calls Tryz.prog 31 #[.agg #[.int .i64 ky, .int .i64 ny, .string sy, .slice a1 m1 r1, .slice a2 m2 r2], .int .i64 ((level : Int) + 1)] Y (PrtPost (level + 1) y Y)) := Lib.hid (by
              have := HI.out y (by rw [HIN.out]; exact List.mem_of_getElem? HYU.out) (level + 1) _ Y HRY2.out HPY.out (by omega) hlv
              rw [show ((level + 1 : Nat) : Int) = (level : Int) + 1 by omega] at this
              exact this)
            have hwr : IntKind.i64.wrap ((level : Int) + 1) = (level : Int) + 1 := by rw [IntKind.wrap_i64]; omega
            go_wp2_with fail
            refine HRC.out.mono ?_
            rintro e w3 ⟨m, e', rfl, hrp, hb3⟩
            have HRP := Lib.hid hrp
            have hm1 : 1 ≤ m := hrp.2.2.1
            have hm2 : m ≤ 1048576 := by have := hrp.2.2.2; have := HPY.out; omega
            have HOZ := Lib.hid (HOY.out.ext hb3)
            have HWZ := Lib.hid (ext_trans HWY.out hb3)
            have HCN : Hid (CntI level x (l.take (q + 1)) (n + m) (false || e')) := Lib.hid (by
              rw [take_one HYU.out]
              exact CntI.step (rest := l.drop (q + 1)) (by
                rw [HIN.out]
                obtain ⟨hq9, e9⟩ := List.getElem?_eq_some_iff.1 HYU.out
                rw [← e9, ← List.drop_eq_getElem_cons hq9, List.take_append_drop]) HC.out (by simp; omega) HL.out.1 HRP.out)
            have hnm : n + m ≤ 1048576 := by
              have := CntI.up (rest := l.drop (q + 1)) HCN.out (by rw [HIN.out, List.take_append_drop])
              have := HPN.out
              omega
            have hwr2 : IntKind.i64.wrap (n + m) = n + m := by rw [IntKind.wrap_i64]; omega
            rw [Bool.false_or] at HCN
            clear hrp hb3 HRC HC HRY2 f0 f1 f2 f3 f4
            go_wp2_with fail
            go_roundw
            case rel => exact ⟨q + 1, n + m, e', by omega, by go_num, rfl, by go_num, ⟨by omega, hnm⟩, HCN, HWZ, HOZ⟩
            case measure => simp [intOf]; omega
      · obtain rfl : q = l.length := by omega
        have HFN : Hid (RefP level x n d) := Lib.hid (CntI.fin (by rw [HIN.out]; have := HC.out; rwa [List.take_length] at this) HL.out.1)
        go_wp2_with fail
        go_ret2
        exact ⟨n, d, rfl, HFN.out, ext_trans HBW.out HW.out⟩
mutual
theorem partsV : ∀ x : V, PartsAt x
  | .mk k n s is fs => parts_step _ (fun y hy => (List.mem_append.1 hy).elim (fun h => partsL is y h) (fun h => by
      obtain ⟨f, hf, e⟩ := List.mem_map.1 h
      rw [← e]
      exact partsF fs f hf))
theorem partsL : ∀ l : List V, ∀ x ∈ l, PartsAt x
  | [] => fun _ h => by cases h
  | y :: l => fun x h => (List.mem_cons.1 h).elim (fun e => by rw [e]; exact partsV y) (fun h => partsL l x h)
theorem partsF : ∀ l : List F, ∀ f ∈ l, PartsAt (vlF f)
  | [] => fun _ h => by cases h
  | .mk nm y :: l => fun f h => (List.mem_cons.1 h).elim (fun e => by rw [e]; exact partsV y) (fun h => partsF l f h)
end
end Fd
end Go.Proofs.YtbhcfmdogdaodaaGreatDoor
namespace Go.Proofs.YtbhcfmdogdaodaaGreatDoor
open Go.RowKit

/-- What a comparison's call leaves. -/
def IntPost (n : Int) (w : World) (e : Ending) (w' : World) : Prop := e = .returned (.int .i64 n) ∧ Below w.heap.size w w'

/-- The contract of a comparison of values at one left side. -/
def CmpAt (f : Nat) (x : V) : Prop := ∀ (y : V) (cs cs' : List Value) (w : World), RepV w x cs → RepV w y cs' → Calls Tryz.prog f #[.agg cs.toArray, .agg cs'.toArray] w (IntPost (cmpV x y) w)

theorem cells5 {w : World} {x : V} {c : List Value} (h : RepV w x c) : ∃ (k n : Int) (s : ByteArray) (a : Option Addr) (m q : Nat) (a' : Option Addr) (m' q' : Nat), c = [.int .i64 k, .int .i64 n, .string s, .slice a m q, .slice a' m' q'] := by
  cases x; simp only [RepV] at h; obtain ⟨_, _, _, _, rfl, _, _, _, ⟨_, _, rfl, _⟩, _, ⟨_, _, rfl, _⟩, _⟩ := h; exact ⟨_, _, _, _, _, _, _, _, _, rfl⟩

/-- An element of five cells, out of a slice of values. -/
theorem item_cells {w : World} {a : Option Addr} {n c k : Nat} {l : List V} {cs : List Value} {x : V} (s : Sl w (.slice a n c) n cs) (r : RepL w l cs) (hx : l[k]? = some x) :
    ∃ (b o : Nat) (kx nx : Int) (sx : ByteArray) (a1 : Option Addr) (m1 q1 : Nat) (a2 : Option Addr) (m2 q2 : Nat), a = some ⟨b, o, none⟩ ∧ RepV w x [.int .i64 kx, .int .i64 nx, .string sx, .slice a1 m1 q1, .slice a2 m2 q2] ∧
      w.cell? ⟨b, o + k * 5, none⟩ = some (.int .i64 kx) ∧ w.cell? ⟨b, o + k * 5 + 1, none⟩ = some (.int .i64 nx) ∧ w.cell? ⟨b, o + k * 5 + 2, none⟩ = some (.string sx) ∧ w.cell? ⟨b, o + k * 5 + 3, none⟩ = some (.slice a1 m1 q1) ∧ w.cell? ⟨b, o + k * 5 + 4, none⟩ = some (.slice a2 m2 q2) := by
  obtain ⟨c', h1, h2⟩ := r.get hx
  obtain ⟨kx, nx, sx, a1, m1, q1, a2, m2, q2, rfl⟩ := cells5 h1
  obtain ⟨a', cap, hv, _, _, _, h3⟩ := s
  obtain ⟨rfl, _, _⟩ : a = a' ∧ True ∧ True := by cases hv; exact ⟨rfl, trivial, trivial⟩
  obtain ⟨b, o, rfl, e0⟩ := h3 _ _ (h2 0 _ rfl)
  obtain ⟨b1, o1, hb1, e1⟩ := h3 _ _ (h2 1 _ rfl)
  obtain ⟨b2, o2, hb2, e2⟩ := h3 _ _ (h2 2 _ rfl)
  obtain ⟨b3, o3, hb3, e3⟩ := h3 _ _ (h2 3 _ rfl)
  obtain ⟨b4, o4, hb4, e4⟩ := h3 _ _ (h2 4 _ rfl)
  cases hb1; cases hb2; cases hb3; cases hb4
  exact ⟨b, o, kx, nx, sx, a1, m1, q1, a2, m2, q2, rfl, h1, e0, e1, e2, e3, e4⟩
theorem drop_nil {α : Type} (l : List α) (k : Nat) (h : l.length ≤ k) : l.drop k = [] := List.drop_eq_nil_of_le h
theorem drop_cons {α : Type} {l : List α} {k : Nat} {x : α} (h : l[k]? = some x) : l.drop k = x :: l.drop (k + 1) := by
  obtain ⟨hk, rfl⟩ := List.getElem?_eq_some_iff.1 h
  exact List.drop_eq_getElem_cons hk

theorem cells6 {w : World} {x : F} {c : List Value} (h : RepF w x c) : ∃ (nm : ByteArray) (k n : Int) (s : ByteArray) (a : Option Addr) (m q : Nat) (a' : Option Addr) (m' q' : Nat), c = [.string nm, .int .i64 k, .int .i64 n, .string s, .slice a m q, .slice a' m' q'] := by
  cases x; simp only [RepF] at h; obtain ⟨c, rfl, _, h⟩ := h
  obtain ⟨_, _, _, _, _, _, _, _, _, rfl⟩ := cells5 h
  exact ⟨_, _, _, _, _, _, _, _, _, _, rfl⟩
/-- An element of six cells, out of a slice of fields. -/
theorem field_cells {w : World} {a : Option Addr} {n c k : Nat} {l : List F} {cs : List Value} {x : F} (s : Sl w (.slice a n c) n cs) (r : RepFs w l cs) (hx : l[k]? = some x) :
    ∃ (b o : Nat) (fx : ByteArray) (kx nx : Int) (sx : ByteArray) (a1 : Option Addr) (m1 q1 : Nat) (a2 : Option Addr) (m2 q2 : Nat), a = some ⟨b, o, none⟩ ∧ RepF w x [.string fx, .int .i64 kx, .int .i64 nx, .string sx, .slice a1 m1 q1, .slice a2 m2 q2] ∧
      w.cell? ⟨b, o + k * 6, none⟩ = some (.string fx) ∧ w.cell? ⟨b, o + k * 6 + 1, none⟩ = some (.int .i64 kx) ∧ w.cell? ⟨b, o + k * 6 + 2, none⟩ = some (.int .i64 nx) ∧ w.cell? ⟨b, o + k * 6 + 3, none⟩ = some (.string sx) ∧ w.cell? ⟨b, o + k * 6 + 4, none⟩ = some (.slice a1 m1 q1) ∧ w.cell? ⟨b, o + k * 6 + 5, none⟩ = some (.slice a2 m2 q2) := by
  obtain ⟨c', h1, h2⟩ := r.get hx
  obtain ⟨fx, kx, nx, sx, a1, m1, q1, a2, m2, q2, rfl⟩ := cells6 h1
  obtain ⟨a', cap, hv, _, _, _, h3⟩ := s
  obtain ⟨rfl, _, _⟩ : a = a' ∧ True ∧ True := by cases hv; exact ⟨rfl, trivial, trivial⟩
  obtain ⟨b, o, rfl, e0⟩ := h3 _ _ (h2 0 _ rfl)
  obtain ⟨b1, o1, hb1, e1⟩ := h3 _ _ (h2 1 _ rfl)
  obtain ⟨b2, o2, hb2, e2⟩ := h3 _ _ (h2 2 _ rfl)
  obtain ⟨b3, o3, hb3, e3⟩ := h3 _ _ (h2 3 _ rfl)
  obtain ⟨b4, o4, hb4, e4⟩ := h3 _ _ (h2 4 _ rfl)
  obtain ⟨b5, o5, hb5, e5⟩ := h3 _ _ (h2 5 _ rfl)
  cases hb1; cases hb2; cases hb3; cases hb4; cases hb5
  exact ⟨b, o, fx, kx, nx, sx, a1, m1, q1, a2, m2, q2, rfl, h1, e0, e1, e2, e3, e4, e5⟩
end Go.Proofs.YtbhcfmdogdaodaaGreatDoor
namespace Go.Proofs.YtbhcfmdogdaodaaGreatDoor
open Go.RowKit
namespace Fd
set_option maxRecDepth 100000 in
set_option maxHeartbeats 8000000 in
theorem refPart_at (k n : Int) (s : ByteArray) (ai af : Option Addr) (ni nf ci cf : Nat) (h1 : ni ≤ maxLen) (h2 : nf ≤ maxLen) (h3 : s.size ≤ maxLen) (w : World) :
    Calls Tryz.prog 53 #[.agg #[.int .i64 k, .int .i64 n, .string s, .slice ai ni ci, .slice af nf cf]] w (IntPost (ownF k n s ni nf) w) := by
  have HS3 := Lib.hid h3
  unfold maxLen at h1 h2 h3
  have HOF : Hid (ownF k n s ni nf = if k < 0 ∨ 5 < k then 4 else if ((decide (n ≠ 0) && decide (k ≠ 1) && decide (k ≠ 2)) || (decide (s.toList ≠ []) && decide (k ≠ 3)) || (decide (0 < ni) && decide (k ≠ 4)) || (decide (0 < nf) && decide (k ≠ 5))) = true then 3
      else if k = 1 ∧ n ≠ 0 ∧ n ≠ 1 ∨ k = 2 ∧ (n ≤ -1000000000000000 ∨ 1000000000000000 ≤ n) then 1 else if 500 < s.size then 2 else if seenB s = false then 1 else if 100 < ni ∨ 100 < nf then 2 else 0) := Lib.hid (by
    have e1 : decide (s.toList ≠ []) = decide (s.size ≠ 0) := by rw [decide_eq_decide]; exact not_congr toList_nil
    rw [e1]; rfl)
  generalize ownF k n s ni nf = B at *
  go_enter Tryz.func53, Tryz.ntmps53
  go_upto_region 1 with (fail)
  refine wp_box1 fun W hszW hbW hA => ?_
  have a0 : W.cell? ⟨w.heap.size, 0, none⟩ = some (.int .i64 k) := hA.2 0
  have a1 : W.cell? ⟨w.heap.size, 1, none⟩ = some (.int .i64 n) := hA.2 1
  have a2 : W.cell? ⟨w.heap.size, 2, none⟩ = some (.string s) := hA.2 2
  have a3 : W.cell? ⟨w.heap.size, 3, none⟩ = some (.slice ai ni ci) := hA.2 3
  have a4 : W.cell? ⟨w.heap.size, 4, none⟩ = some (.slice af nf cf) := hA.2 4
  have HB := Lib.hid hbW
  obtain ⟨se, hse⟩ : ∃ b, seenB s = b := ⟨_, rfl⟩
  have HPR : Hid (∀ W9, Calls Tryz.prog 55 #[.string s] W9 fun e w' => e = .returned (.bool se) ∧ W9 = w') := Lib.hid (fun W9 => by rw [← hse]; exact printable_at s HS3.out W9)
  rw [hse] at HOF
  clear hse hszW hA hbW
  by_cases hk : 0 ≤ k ∧ k ≤ 5
  · have hk6 : k = 0 ∨ k = 1 ∨ k = 2 ∨ k = 3 ∨ k = 4 ∨ k = 5 := by omega
    clear hk
    rcases hk6 with rfl | rfl | rfl | rfl | rfl | rfl
    all_goals
      go_wp2_with (first | (go_at_call 54; refine (within_at _ _ _ _).mono ?_; rintro e w' ⟨rfl, rfl⟩) | (go_at_call 55; refine (HPR.out _).mono ?_; rintro e w' ⟨rfl, rfl⟩))
      all_goals go_ret
      all_goals refine ⟨ret_int ?_, HB.out⟩
      all_goals rw [HOF.out]
      all_goals clear a0 a1 a2 a3 a4 HOF HB HPR
      all_goals simp_all [inB]
      all_goals first | done | omega | trace_state
  · have hkb : inB k 0 5 = false := by unfold inB; simp; omega
    go_wp2_with (go_at_call 54; refine (within_at _ _ _ _).mono ?_; rw [hkb]; rintro e w' ⟨rfl, rfl⟩)
    go_ret
    exact ⟨ret_int (by rw [HOF.out, if_pos (by omega)]), HB.out⟩
end Fd
end Go.Proofs.YtbhcfmdogdaodaaGreatDoor
