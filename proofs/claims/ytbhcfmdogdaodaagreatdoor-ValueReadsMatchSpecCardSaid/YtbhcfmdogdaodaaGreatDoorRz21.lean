/- Read of package value. Printed by gen_rdr.py. -/
import Derived.Test.YtbhcfmdogdaodaaGreatDoorRz19
import Derived.Test.YtbhcfmdogdaodaaGreatDoorRz20
import Derived.Laws.ResultCell
namespace Go.Proofs.YtbhcfmdogdaodaaGreatDoor
open Go.RowKit
namespace Fd
open _root_.Go.Proofs.YtbhcfmdogdaodaaGreatDoor.Nm
open _root_.Go.Proofs.YtbhcfmdogdaodaaGreatDoor.Nt (RH RH.cell RH.box RH.lt RH.new RH.ext RH.fre RH.set RH.other)
open _root_.Go.Proofs.YtbhcfmdogdaodaaGreatDoor.Nt (RH.row RH.row_other RH.set_other)
open _root_.Go.Proofs.YtbhcfmdogdaodaaGreatDoor.Rw (All2 wp_stored Fresh Kept)
open _root_.Go.Proofs.YtbhcfmdogdaodaaGreatDoor.Tx (stB)
theorem results_row_tmps {P : Program} {fn : Func} {p u q : Tmp} {ty : TypeId} (h : fn.results = #[.cell p ty, .tmp u, .tmp q]) (tmps : Array Value) (w : World) (g : Nat) (t : TypeId) (cs : Array Value) (fr : Nat × Nat) (d : TypeDesc) (v v2 : Value)
    (hp : tmps.getD p undef = .pointer (some ⟨g, 0, none⟩)) (hg : w.heap[g]? = some (.cells cs t fr))
    (hu : P.underlying ty = some d) (hd : (match d with | .struct _ | .array _ _ => true | _ => false) = true) (hi : (P.info? ty).map (·.size) = some cs.size) (hv : tmps.getD u undef = v) (hv2 : tmps.getD q undef = v2) :
    (results fn tmps).run P w = .ok (.tuple #[.agg cs, v, v2]) w := by
  subst hv hv2
  rw [Array.getD_eq_getD_getElem?] at hp
  simp only [results, h]
  simp [Result.andThen, hp, asAddr, run_loadVar_row w g t ty cs fr d hg hu hd hi]
/-- what Read answers -/
def ReadPost (s : ByteArray) (w : World) (e : Ending) (w' : World) : Prop := ∃ c, e = .returned (.tuple #[.agg c.toArray, .int .i64 (readF s.data.toList).2.1, .int .i64 (readF s.data.toList).2.2]) ∧ On (fun q => w.heap.size ≤ q) (fun Z => RepV Z (readF s.data.toList).1 c) w' ∧ Below w.heap.size w w' ∧ ((readF s.data.toList).2.2 = 0 → chkF (readF s.data.toList).1 = 0)
theorem readF_bad {s : ByteArray} (hs : s.size ≤ 20000) {q : List UInt8} {er : Int} (h : valP (2 * s.size + 2) (skipW s.data.toList) = .bad q er) : readF s.data.toList = (V0, ((s.size - q.length : Nat) : Int), er) := by
  have hl : s.data.toList.length = s.size := (Lib.size_eq s).symm
  unfold readF allP
  rw [if_neg (by omega), hl, h]; rfl
theorem readF_more {s : ByteArray} (hs : s.size ≤ 20000) {v : V} {r q : List UInt8} {c : UInt8} (h : valP (2 * s.size + 2) (skipW s.data.toList) = .ok v r) (hq : skipW r = c :: q) : readF s.data.toList = (V0, ((s.size - (c :: q).length : Nat) : Int), 10) := by
  have hl : s.data.toList.length = s.size := (Lib.size_eq s).symm
  unfold readF allP
  rw [if_neg (by omega), hl, h]
  simp only [Res.bind, hq]
theorem readF_ok {s : ByteArray} (hs : s.size ≤ 20000) {v : V} {r : List UInt8} (h : valP (2 * s.size + 2) (skipW s.data.toList) = .ok v r) (hq : skipW r = []) : readF s.data.toList = ((chkdF v).1, 0, (chkdF v).2) := by
  have hl : s.data.toList.length = s.size := (Lib.size_eq s).symm
  unfold readF allP chkdF
  rw [if_neg (by omega), hl, h]
  simp only [Res.bind, hq]
  split <;> rfl
theorem chkd_zero {v : V} (h : (chkdF v).2 = 0) : chkF (chkdF v).1 = 0 := by
  unfold chkdF at h ⊢
  split at h
  · next h1 => exact absurd h h1
  · next h1 => rw [if_neg h1]; exact Classical.not_not.1 h1
theorem dr_zero (s : ByteArray) : dr s 0 = s.data.toList := rfl
theorem below_gr {w w' : World} {b : Nat} (h : w.grownBy w' (some b)) (hb : w.heap.size ≤ b) : Below w.heap.size w w' := ⟨h.os, h.tape, h.output, h.size, fun k hk => h.block k hk (fun e => by have := Option.some.inj e; omega)⟩
set_option maxRecDepth 100000 in
set_option maxHeartbeats 8000000 in
theorem read_at (s : ByteArray) (w : World) : Calls Tryz.prog 4 #[.string s] w (ReadPost s w) := by
  obtain ⟨x, hx⟩ : ∃ x, readF s.data.toList = x := ⟨_, rfl⟩
  have HX := Lib.hid hx
  have hsz : s.data.toList.length = s.size := (Lib.size_eq s).symm
  clear hx
  go_enter Tryz.func4, Tryz.ntmps4
  go_upto_region 1 with (fail)
  refine Tx.wp_vr1 fun W hbW hR1 => ?_
  have HT0 := Lib.hid hR1
  have HB0 := Lib.hid hbW
  clear hR1 hbW
  by_cases hl : 20000 < s.size
  · have hli : 20000 < (s.size : Int) := by omega
    have HXL : Hid (readF s.data.toList = (V0, 0, 2)) := Lib.hid (by unfold readF; rw [if_pos (by rw [hsz]; exact hl)])
    have HFI : Hid (ReadPost s w (.returned (.tuple #[.agg (vAr 0 0 eB (.slice none 0 0) (.slice none 0 0)), .int .i64 0, .int .i64 2])) (W.setRow w.heap.size (vAr 0 0 eB (.slice none 0 0) (.slice none 0 0)))) := Lib.hid ⟨_, by rw [HXL.out], by rw [HXL.out]; exact fun Z _ => rep_zero Z, below_setRow HB0.out (Nat.le_refl _) _, fun h9 => by rw [HXL.out] at h9; cases h9⟩
    go_wp2_with (refine wpList_store_row rfl _ _ _ rfl w.heap.size (vAr 0 0 eB (.slice none 0 0) (.slice none 0 0)) rfl rfl _ _ HT0.out (v_inf5 _ _ _ _ _) rfl (v_all5 _ _ _ _ _ _ _ _ _) ?_)
    (try simp only [Exit.inBlock, Exit.then])
    refine bodyPost_ret (v := .tuple #[.agg (vAr 0 0 eB (.slice none 0 0) (.slice none 0 0)), .int .i64 0, .int .i64 2]) (results_row_tmps rfl _ _ _ _ _ _ _ _ _ rfl (HT0.out.row _) Tryz.underlying25 rfl (v_inf5 _ _ _ _ _) rfl rfl) rfl HFI.out
  · have hli : ¬ 20000 < (s.size : Int) := by omega
    have HS : Hid (s.size ≤ 20000) := Lib.hid (by omega)
    go_upto_region 4 with (fail)
    refine Tx.wp_vr1 fun Y hbY hRb => ?_
    obtain ⟨rb, hrb⟩ : ∃ rb, W.heap.size = rb := ⟨_, rfl⟩
    have HRG : Hid (w.heap.size < rb) := Lib.hid (by rw [← hrb]; exact HT0.out.lt)
    have HR1 : Hid (RD Y rb s 0 0 0) := Lib.hid (hrb ▸ hRb)
    have HT1 := Lib.hid (HT0.out.ext hbY)
    have HG1 := Lib.hid (gr_below (ext_trans HB0.out hbY) (some rb))
    have HTB : Hid (some w.heap.size ≠ some rb) := Lib.hid (by have := HRG.out; simp; omega)
    rw [hrb]
    clear hbY hRb HT0 HB0 hrb
    have hs0 : s.size ≤ 1000000 := by have := HS.out; omega
    go_wp2_with fail
    refine (blanks_at rb s 0 0 0 Y HR1.out hs0 (Nat.zero_le _)).mono ?_
    rintro e Y1 ⟨rfl, a1, ha1, hd1, hR, hg⟩
    have HR2 := Lib.hid hR
    have HT2 := Lib.hid (Rw.rh_grown HT1.out hg HTB.out)
    have HG2 := Lib.hid (HG1.out.trans hg)
    have hR2 := hR
    obtain ⟨y, hy⟩ : ∃ y, valP (2 * s.size + 2) (dr s a1) = y := ⟨_, rfl⟩
    have hV := val_at s rb 0 (by have := HS.out; omega) (2 * s.size + 2) a1 Y1 hR2 ha1 (by omega)
    rw [hy] at hV
    have HV := Lib.hid hV
    have HY := Lib.hid hy
    have HD1 := Lib.hid hd1
    clear hR hR2 hg hV hy hd1 HR1 HT1 HG1
    go_wp2_with fail
    refine HV.out.mono ?_
    rintro e Y2 ⟨v, c, rfl, hon, hvu, hA⟩
    obtain ⟨k6, n6, s6, a6, m6, r6, a7, m7, r7, rfl⟩ := V5 hon.now
    have HON := Lib.hid (hon.mono (D' := fun q => rb < q ∧ q ≠ Y2.heap.size) (fun q h1 hq => ⟨Nat.lt_of_lt_of_le HR2.out.lt hq, Nat.ne_of_lt h1⟩))
    have HVU := Lib.hid hvu
    have HAT := Lib.hid hA
    have HG3 := Lib.hid (HG2.out.trans hA.gr)
    have HT3 := Lib.hid (Rw.rh_grown HT2.out hA.gr HTB.out)
    clear hon hvu hA HR2 HT2
    go_upto_region 6 with (refine wpList_store_row rfl _ _ _ rfl Y2.heap.size (vAr k6 n6 s6 (.slice a6 m6 r6) (.slice a7 m7 r7)) rfl rfl _ _ (RH.new _ _ _) (v_inf5 _ _ _ _ _) rfl (v_all5 _ _ _ _ _ _ _ _ _) ?_)
    refine wp_stored fun Y3 hb3 hR6 => ?_
    have HAT3 := Lib.hid (HAT.out.ext hb3)
    have HG4 := Lib.hid (HG3.out.trans (gr_below hb3 (some rb)))
    have HT4 := Lib.hid (HT3.out.ext hb3)
    have HON4 := Lib.hid (HON.out.below hb3)
    have HV6 := Lib.hid hR6
    have HVB : Hid (w.heap.size < Y2.heap.size ∧ Y2.heap.size ≠ rb) := Lib.hid ⟨HT3.out.lt, by
      have h1 : rb < Y2.heap.size := by
        cases y with
        | ok v r => obtain ⟨_, _, _, h3, _⟩ := HAT.out; exact h3.lt
        | bad q er => obtain ⟨_, _, _, h3, _⟩ := HAT.out; exact h3.lt
      omega⟩
    generalize Y2.heap.size = vb at *
    clear hb3 hR6 HG3 HT3 HON HAT
    have HY0 : Hid (valP (2 * s.size + 2) (skipW s.data.toList) = y) := Lib.hid (by rw [← HY.out, HD1.out, dr_zero])
    clear HY HD1
    cases y with
    | ok v2 r =>
      obtain ⟨a3, ha3, hd3, hR3, _⟩ := HAT3.out
      have HD3 := Lib.hid hd3
      have hvv : v = v2 := HVU.out v2 r rfl
      subst hvv
      clear hd3
      go_wp2_with fail
      refine (blanks_at rb s a3 0 0 Y3 hR3 hs0 ha3).mono ?_
      rintro e Y4 ⟨rfl, a4, ha4, hd4, hR, hg⟩
      have HR5 := Lib.hid hR
      have HG5 := Lib.hid (HG4.out.trans hg)
      have HT5 := Lib.hid (Rw.rh_grown HT4.out hg HTB.out)
      have HV5 := Lib.hid (Rw.rh_grown HV6.out hg (fun e => HVB.out.2 (Option.some.inj e)))
      have HON5 : Hid (On (fun q => rb < q ∧ q ≠ vb) (fun Z => RepV Z v [.int .i64 k6, .int .i64 n6, .string s6, .slice a6 m6 r6, .slice a7 m7 r7]) Y4) := Lib.hid (HON4.out.grownBy hg (fun q _ hq e => by have := Option.some.inj e; omega))
      have HD4 : Hid (dr s a4 = skipW r) := Lib.hid (by rw [hd4, HD3.out])
      clear hR hg hR3 hd4 HD3 HG4 HT4 HV6 HON4 HAT3
      obtain ⟨c0, c1, c2, c3⟩ := HR5.out.c
      by_cases hl4 : a4 < s.size
      · have hli4 : (a4 : Int) < (s.size : Int) := by omega
        go_wp2_with fail
        refine (fail_ok rb s a4 a4 10 0 Y4 HR5.out hs0 ha4 (by decide)).mono ?_
        rintro e Y5 ⟨rfl, hR, hg⟩
        have HRX := Lib.hid hR
        have HEX : Hid ((10 : Int) ≠ 0) := Lib.hid (by decide)
        have HTX := Lib.hid (Rw.rh_grown HT5.out hg HTB.out)
        have HGX := Lib.hid (HG5.out.trans hg)
        have HFX : Hid (readF s.data.toList = (V0, (a4 : Int), 10)) := Lib.hid (by
          have h1 := HD4.out
          rw [dr_lt hl4] at h1
          rw [readF_more HS.out HY0.out h1.symm, ← dr_lt hl4, sub_len ha4])
        clear hR hg HR5 HT5 HG5 HV5 HON5 c0 c1 c2 c3
        obtain ⟨c0, c1, c2, c3⟩ := HRX.out.c
        have hnb : ((10 : Int) != 0) = true := bne_iff_ne.2 HEX.out
        go_upto_region 10 with (fail)
        obtain ⟨Z0, hZ0⟩ : ∃ Z9, Z9 = Y5.drew := ⟨_, rfl⟩
        have hbZ0 : Below Y5.heap.size Y5 Z0 := by rw [hZ0]; exact (Below.refl _ _).drew
        have hR0 := HRX.out.ext hbZ0
        have hT0 := HTX.out.ext hbZ0
        obtain ⟨Z1, hZ1⟩ : ∃ Z9, Z9 = Z0.setRow w.heap.size (vAr 0 0 eB (.slice none 0 0) (.slice none 0 0)) := ⟨_, rfl⟩
        have hR1 : RD Z1 rb s a4 (10 : Int) (a4 : Int) := by rw [hZ1]; exact RH.row_other hR0 (by have := HRG.out; omega) _
        have hT1 : RH Z1 w.heap.size (vAr 0 0 eB (.slice none 0 0) (.slice none 0 0)) 25 := by rw [hZ1]; exact hT0.row _
        have HB1 : Hid (Below w.heap.size w Z1) := Lib.hid (by rw [hZ1]; exact below_setRow (below_gr (HGX.out.trans (gr_below hbZ0 (some rb))) (Nat.le_of_lt HRG.out)) (Nat.le_refl _) _)
        have HCZ : ∀ k9, k9 ≤ 1 → (fun w' : World => RD w' rb s a4 (10 : Int) (a4 : Int)) ([Z0, Z1].getD k9 Y5) := fun k9 hk9 => by
          match k9, hk9 with
          | 0, _ => exact hR0
          | 1, _ => exact hR1
          | k9 + 2, h => omega
        have HZ0 := Lib.hid hZ0
        have HZ1 := Lib.hid hZ1
        have HT0' := Lib.hid hT0
        have HT1' := Lib.hid hT1
        clear hZ0 hZ1 hR0 hR1 hT0 hT1 hbZ0 c0 c1 c2 c3
        refine Grow.wp_region_storest 11 1 [Z0, Z1] (fun w' : World => RD w' rb s a4 (10 : Int) (a4 : Int)) [(fun v => v = .agg (vAr 0 0 eB (.slice none 0 0) (.slice none 0 0))), (fun v => v = .pointer (some ⟨rb, 0, none⟩)), (fun v => v = .pointer (some ⟨rb, 0, none⟩)), (fun v => v = .pointer (some ⟨rb, 3, none⟩)), (fun v => v = .int .i64 (a4 : Int)), (fun v => v = .pointer (some ⟨rb, 0, none⟩)), (fun v => v = .pointer (some ⟨rb, 0, none⟩)), (fun v => v = .pointer (some ⟨rb, 2, none⟩)), (fun v => v = .int .i64 (10 : Int)), (fun _ => True), (fun v => v = .int .i64 (a4 : Int))] [[], [], [1], [2], [3], [], [5], [6], [7], [0], [4]] [none, none, none, none, none, none, none, none, none, some 0, none] (by kernel_rfl) (by kernel_rfl) HZ0.out HCZ ⟨?s0, ?s1, ?s2, ?s3, ?s4, ?s5, ?s6, ?s7, ?s8, ?s9, ?s10, trivial⟩ ?_
        all_goals clear HCZ
        case s0 | s1 | s5 =>
          intro w' hC
          show wpList _ _ _ _ _ _
          go_wp2
          exact ⟨rfl, rfl, rfl⟩
        case s2 | s3 | s6 | s7 | s10 =>
          intro w' hC v1 hv1
          obtain rfl : v1 = _ := hv1
          show wpList _ _ _ _ _ _
          simp only [Grow.dstOf, List.getElem?_toArray, List.getElem?_cons_succ, List.getElem?_cons_zero, Option.bind_some, Act.put, List.setIfInBounds_toArray, List.set_cons_succ, List.set_cons_zero]
          go_wp2
          exact ⟨rfl, rfl, rfl⟩
        case s4 | s8 =>
          intro w' hC v1 hv1
          obtain rfl : v1 = _ := hv1
          obtain ⟨c0, c1, c2, c3⟩ := RD.c hC
          show wpList _ _ _ _ _ _
          simp only [Grow.dstOf, List.getElem?_toArray, List.getElem?_cons_succ, List.getElem?_cons_zero, Option.bind_some, Act.put, List.setIfInBounds_toArray, List.set_cons_succ, List.set_cons_zero]
          go_wp2
          exact ⟨rfl, rfl, rfl⟩
        case s9 =>
          intro v1 hv1
          obtain rfl : v1 = _ := hv1
          show wpList _ _ _ _ _ Z0
          simp only [Grow.dstOf, List.getElem?_toArray, List.getElem?_cons_zero, Option.bind_some, Act.put, List.setIfInBounds_toArray, List.set_cons_succ, List.set_cons_zero]
          refine wpList_store_row rfl _ _ _ rfl w.heap.size (vAr 0 0 eB (.slice none 0 0) (.slice none 0 0)) rfl rfl _ _ HT0'.out (v_inf5 _ _ _ _ _) rfl (v_all5 _ _ _ _ _ _ _ _ _) ?_
          go_wp2
          exact ⟨trivial, HZ1.out.symm, rfl⟩
        intro v0 h0 v1 h1 v2 h2 v3 h3 v4 h4 v5 h5 v6 h6 v7 h7 v8 h8 v9 h9 v10 h10
        obtain rfl : v8 = _ := h8 rfl
        obtain rfl : v10 = _ := h10 rfl
        clear h0 h1 h2 h3 h4 h5 h6 h7 h9
        show wpList _ _ _ [_] _ Z1
        simp only [Act.put, List.setIfInBounds_toArray, List.set_cons_succ, List.set_cons_zero]
        go_wp2
        refine bodyPost_ret (v := .tuple #[.agg (vAr 0 0 eB (.slice none 0 0) (.slice none 0 0)), .int .i64 (a4 : Int), .int .i64 (10 : Int)]) (results_row_tmps rfl _ _ _ _ _ _ _ _ _ rfl HT1'.out Tryz.underlying25 rfl (v_inf5 _ _ _ _ _) rfl rfl) rfl ?_
        refine ⟨_, by rw [HFX.out], by rw [HFX.out]; exact fun Z _ => rep_zero Z, HB1.out, fun h9 => ?_⟩
        rw [HFX.out] at h9
        exact absurd h9 HEX.out
        
      · have hli4 : ¬ (a4 : Int) < (s.size : Int) := by omega
        have HFX : Hid (readF s.data.toList = ((chkdF v).1, 0, (chkdF v).2)) := Lib.hid (readF_ok HS.out HY0.out (by rw [← HD4.out, dr_ge (by omega)]))
        go_upto_region 11 with (fail)
        obtain ⟨a0, a1', a2, a3', a4'⟩ := va5 HV5.out
        go_wp2_with fail
        refine (checked_at v [.int .i64 k6, .int .i64 n6, .string s6, .slice a6 m6 r6, .slice a7 m7 r7] _ HON5.out.now).mono ?_
        rintro e Y5 ⟨c, rfl, hb, hfr⟩
        have hon4 : On (fun q => rb < q ∧ q ≠ vb) (fun Z => RepV Z (chkdF v).1 c) Y4 := fun Z hZ => (hfr Z 0 (fun w' k => RepV.blocks (fun q hq => k q (Nat.zero_le _) hq) (HON5.out Z hZ))) Z (fun _ _ _ => rfl)
        obtain ⟨k8, n8, s8, a8, m8, r8, b8, m9, r9, rfl⟩ := V5 hon4.now
        have HON6 := Lib.hid (hon4.below hb)
        have HR6 := Lib.hid (HR5.out.ext hb)
        have HT6 := Lib.hid (HT5.out.ext hb)
        have HG6 := Lib.hid (HG5.out.trans (gr_below hb (some rb)))
        have HV7 := Lib.hid (HV5.out.ext hb)
        obtain ⟨z, hz⟩ : ∃ z, (chkdF v).2 = z := ⟨_, rfl⟩
        have HCZ : Hid (z = 0 → chkF (chkdF v).1 = 0) := Lib.hid (fun e => chkd_zero (hz.trans e))
        rw [hz] at HFX ⊢
        clear hfr hon4 hb hz a0 a1' a2 a3' a4' HON5 HR5 HT5 HG5 HV5 c0 c1 c2 c3
        go_upto_region 12 with (refine wpList_store_row rfl _ _ _ rfl vb (vAr k8 n8 s8 (.slice a8 m8 r8) (.slice b8 m9 r9)) rfl rfl _ _ HV7.out (v_inf5 _ _ _ _ _) rfl (v_all5 _ _ _ _ _ _ _ _ _) ?_)
        have HV8 := Lib.hid (HV7.out.row (vAr k8 n8 s8 (.slice a8 m8 r8) (.slice b8 m9 r9)))
        have HT7 := Lib.hid (RH.row_other HT6.out (show w.heap.size ≠ vb by have := HVB.out.1; omega) (vAr k8 n8 s8 (.slice a8 m8 r8) (.slice b8 m9 r9)))
        have HON7 : Hid (On (fun q => rb < q ∧ q ≠ vb) (fun Z => RepV Z (chkdF v).1 [.int .i64 k8, .int .i64 n8, .string s8, .slice a8 m8 r8, .slice b8 m9 r9]) (Y5.setRow vb (vAr k8 n8 s8 (.slice a8 m8 r8) (.slice b8 m9 r9)))) := Lib.hid (HON6.out.keep (by rw [setRow_size]; exact Nat.le_refl _) (fun q _ hq => setRow_other _ _ _ _ hq.2))
        have HB7 : Hid (Below w.heap.size w (Y5.setRow vb (vAr k8 n8 s8 (.slice a8 m8 r8) (.slice b8 m9 r9)))) := Lib.hid (below_setRow (below_gr HG6.out (Nat.le_of_lt HRG.out)) (Nat.le_of_lt HVB.out.1) _)
        clear HV7 HT6 HON6 HG6 HR6
        generalize Y5.setRow vb (vAr k8 n8 s8 (.slice a8 m8 r8) (.slice b8 m9 r9)) = Y6 at *
        obtain ⟨a0, a1', a2, a3', a4'⟩ := va5 HV8.out
        go_wp2_with (refine wpList_store_row rfl _ _ _ rfl w.heap.size (vAr k8 n8 s8 (.slice a8 m8 r8) (.slice b8 m9 r9)) rfl rfl _ _ HT7.out (v_inf5 _ _ _ _ _) rfl (v_all5 _ _ _ _ _ _ _ _ _) ?_)
        (try simp only [Exit.inBlock, Exit.then])
        refine bodyPost_ret (v := .tuple #[.agg (vAr k8 n8 s8 (.slice a8 m8 r8) (.slice b8 m9 r9)), .int .i64 0, .int .i64 z]) (results_row_tmps rfl _ _ _ _ _ _ _ _ _ rfl (HT7.out.row _) Tryz.underlying25 rfl (v_inf5 _ _ _ _ _) rfl rfl) rfl ?_
        refine ⟨_, by rw [HFX.out], ?_, below_setRow HB7.out (Nat.le_refl _) _, fun h9 => ?_⟩
        · rw [HFX.out]
          exact (HON7.out.keep (by rw [setRow_size]; exact Nat.le_refl _) (fun q _ hq => setRow_other _ _ _ _ (by have := HRG.out; omega))).mono (fun q _ hq => by have := HRG.out; omega)
        · rw [HFX.out] at h9 ⊢
          exact HCZ.out h9
    | bad q er =>
      obtain ⟨a3, ha3, her, hR3, _⟩ := HAT3.out
      obtain ⟨p, hp⟩ : ∃ p : Int, ((s.size - q.length : Nat) : Int) = p := ⟨_, rfl⟩
      have HFX : Hid (readF s.data.toList = (V0, p, er)) := Lib.hid (by rw [← hp]; exact readF_bad HS.out HY0.out)
      rw [hp] at hR3
      have HEX := Lib.hid her
      have hR3' := hR3
      clear her hp hR3
      go_wp2_with fail
      refine (blanks_at rb s a3 er p Y3 hR3' hs0 ha3).mono ?_
      rintro e Y4 ⟨rfl, a4, ha4, -, hR, hg⟩
      have HRX := Lib.hid hR
      have HGX := Lib.hid (HG4.out.trans hg)
      have HTX := Lib.hid (Rw.rh_grown HT4.out hg HTB.out)
      clear hR hg hR3' HG4 HT4 HV6 HON4 HAT3
      obtain ⟨c0, c1, c2, c3⟩ := HRX.out.c
      by_cases hl4 : a4 < s.size
      · have hli4 : (a4 : Int) < (s.size : Int) := by omega
        go_wp2_with fail
        refine (fail_no rb s a4 (a4 : Int) 10 er p Y4 HRX.out HEX.out).mono ?_
        rintro e Y5 ⟨rfl, hw⟩
        have hw := hw.symm
        subst hw
        clear c0 c1 c2 c3
        obtain ⟨c0, c1, c2, c3⟩ := HRX.out.c
        have hnb : (er != 0) = true := bne_iff_ne.2 HEX.out
        go_upto_region 10 with (fail)
        obtain ⟨Z0, hZ0⟩ : ∃ Z9, Z9 = Y4.drew := ⟨_, rfl⟩
        have hbZ0 : Below Y4.heap.size Y4 Z0 := by rw [hZ0]; exact (Below.refl _ _).drew
        have hR0 := HRX.out.ext hbZ0
        have hT0 := HTX.out.ext hbZ0
        obtain ⟨Z1, hZ1⟩ : ∃ Z9, Z9 = Z0.setRow w.heap.size (vAr 0 0 eB (.slice none 0 0) (.slice none 0 0)) := ⟨_, rfl⟩
        have hR1 : RD Z1 rb s a4 er p := by rw [hZ1]; exact RH.row_other hR0 (by have := HRG.out; omega) _
        have hT1 : RH Z1 w.heap.size (vAr 0 0 eB (.slice none 0 0) (.slice none 0 0)) 25 := by rw [hZ1]; exact hT0.row _
        have HB1 : Hid (Below w.heap.size w Z1) := Lib.hid (by rw [hZ1]; exact below_setRow (below_gr (HGX.out.trans (gr_below hbZ0 (some rb))) (Nat.le_of_lt HRG.out)) (Nat.le_refl _) _)
        have HCZ : ∀ k9, k9 ≤ 1 → (fun w' : World => RD w' rb s a4 er p) ([Z0, Z1].getD k9 Y4) := fun k9 hk9 => by
          match k9, hk9 with
          | 0, _ => exact hR0
          | 1, _ => exact hR1
          | k9 + 2, h => omega
        have HZ0 := Lib.hid hZ0
        have HZ1 := Lib.hid hZ1
        have HT0' := Lib.hid hT0
        have HT1' := Lib.hid hT1
        clear hZ0 hZ1 hR0 hR1 hT0 hT1 hbZ0 c0 c1 c2 c3
        refine Grow.wp_region_storest 11 1 [Z0, Z1] (fun w' : World => RD w' rb s a4 er p) [(fun v => v = .agg (vAr 0 0 eB (.slice none 0 0) (.slice none 0 0))), (fun v => v = .pointer (some ⟨rb, 0, none⟩)), (fun v => v = .pointer (some ⟨rb, 0, none⟩)), (fun v => v = .pointer (some ⟨rb, 3, none⟩)), (fun v => v = .int .i64 p), (fun v => v = .pointer (some ⟨rb, 0, none⟩)), (fun v => v = .pointer (some ⟨rb, 0, none⟩)), (fun v => v = .pointer (some ⟨rb, 2, none⟩)), (fun v => v = .int .i64 er), (fun _ => True), (fun v => v = .int .i64 p)] [[], [], [1], [2], [3], [], [5], [6], [7], [0], [4]] [none, none, none, none, none, none, none, none, none, some 0, none] (by kernel_rfl) (by kernel_rfl) HZ0.out HCZ ⟨?s0, ?s1, ?s2, ?s3, ?s4, ?s5, ?s6, ?s7, ?s8, ?s9, ?s10, trivial⟩ ?_
        all_goals clear HCZ
        case s0 | s1 | s5 =>
          intro w' hC
          show wpList _ _ _ _ _ _
          go_wp2
          exact ⟨rfl, rfl, rfl⟩
        case s2 | s3 | s6 | s7 | s10 =>
          intro w' hC v1 hv1
          obtain rfl : v1 = _ := hv1
          show wpList _ _ _ _ _ _
          simp only [Grow.dstOf, List.getElem?_toArray, List.getElem?_cons_succ, List.getElem?_cons_zero, Option.bind_some, Act.put, List.setIfInBounds_toArray, List.set_cons_succ, List.set_cons_zero]
          go_wp2
          exact ⟨rfl, rfl, rfl⟩
        case s4 | s8 =>
          intro w' hC v1 hv1
          obtain rfl : v1 = _ := hv1
          obtain ⟨c0, c1, c2, c3⟩ := RD.c hC
          show wpList _ _ _ _ _ _
          simp only [Grow.dstOf, List.getElem?_toArray, List.getElem?_cons_succ, List.getElem?_cons_zero, Option.bind_some, Act.put, List.setIfInBounds_toArray, List.set_cons_succ, List.set_cons_zero]
          go_wp2
          exact ⟨rfl, rfl, rfl⟩
        case s9 =>
          intro v1 hv1
          obtain rfl : v1 = _ := hv1
          show wpList _ _ _ _ _ Z0
          simp only [Grow.dstOf, List.getElem?_toArray, List.getElem?_cons_zero, Option.bind_some, Act.put, List.setIfInBounds_toArray, List.set_cons_succ, List.set_cons_zero]
          refine wpList_store_row rfl _ _ _ rfl w.heap.size (vAr 0 0 eB (.slice none 0 0) (.slice none 0 0)) rfl rfl _ _ HT0'.out (v_inf5 _ _ _ _ _) rfl (v_all5 _ _ _ _ _ _ _ _ _) ?_
          go_wp2
          exact ⟨trivial, HZ1.out.symm, rfl⟩
        intro v0 h0 v1 h1 v2 h2 v3 h3 v4 h4 v5 h5 v6 h6 v7 h7 v8 h8 v9 h9 v10 h10
        obtain rfl : v8 = _ := h8 rfl
        obtain rfl : v10 = _ := h10 rfl
        clear h0 h1 h2 h3 h4 h5 h6 h7 h9
        show wpList _ _ _ [_] _ Z1
        simp only [Act.put, List.setIfInBounds_toArray, List.set_cons_succ, List.set_cons_zero]
        go_wp2
        refine bodyPost_ret (v := .tuple #[.agg (vAr 0 0 eB (.slice none 0 0) (.slice none 0 0)), .int .i64 p, .int .i64 er]) (results_row_tmps rfl _ _ _ _ _ _ _ _ _ rfl HT1'.out Tryz.underlying25 rfl (v_inf5 _ _ _ _ _) rfl rfl) rfl ?_
        refine ⟨_, by rw [HFX.out], by rw [HFX.out]; exact fun Z _ => rep_zero Z, HB1.out, fun h9 => ?_⟩
        rw [HFX.out] at h9
        exact absurd h9 HEX.out
        
      · have hli4 : ¬ (a4 : Int) < (s.size : Int) := by omega
        clear c0 c1 c2 c3
        obtain ⟨c0, c1, c2, c3⟩ := HRX.out.c
        have hnb : (er != 0) = true := bne_iff_ne.2 HEX.out
        go_upto_region 10 with (fail)
        obtain ⟨Z0, hZ0⟩ : ∃ Z9, Z9 = Y4.drew := ⟨_, rfl⟩
        have hbZ0 : Below Y4.heap.size Y4 Z0 := by rw [hZ0]; exact (Below.refl _ _).drew
        have hR0 := HRX.out.ext hbZ0
        have hT0 := HTX.out.ext hbZ0
        obtain ⟨Z1, hZ1⟩ : ∃ Z9, Z9 = Z0.setRow w.heap.size (vAr 0 0 eB (.slice none 0 0) (.slice none 0 0)) := ⟨_, rfl⟩
        have hR1 : RD Z1 rb s a4 er p := by rw [hZ1]; exact RH.row_other hR0 (by have := HRG.out; omega) _
        have hT1 : RH Z1 w.heap.size (vAr 0 0 eB (.slice none 0 0) (.slice none 0 0)) 25 := by rw [hZ1]; exact hT0.row _
        have HB1 : Hid (Below w.heap.size w Z1) := Lib.hid (by rw [hZ1]; exact below_setRow (below_gr (HGX.out.trans (gr_below hbZ0 (some rb))) (Nat.le_of_lt HRG.out)) (Nat.le_refl _) _)
        have HCZ : ∀ k9, k9 ≤ 1 → (fun w' : World => RD w' rb s a4 er p) ([Z0, Z1].getD k9 Y4) := fun k9 hk9 => by
          match k9, hk9 with
          | 0, _ => exact hR0
          | 1, _ => exact hR1
          | k9 + 2, h => omega
        have HZ0 := Lib.hid hZ0
        have HZ1 := Lib.hid hZ1
        have HT0' := Lib.hid hT0
        have HT1' := Lib.hid hT1
        clear hZ0 hZ1 hR0 hR1 hT0 hT1 hbZ0 c0 c1 c2 c3
        refine Grow.wp_region_storest 11 1 [Z0, Z1] (fun w' : World => RD w' rb s a4 er p) [(fun v => v = .agg (vAr 0 0 eB (.slice none 0 0) (.slice none 0 0))), (fun v => v = .pointer (some ⟨rb, 0, none⟩)), (fun v => v = .pointer (some ⟨rb, 0, none⟩)), (fun v => v = .pointer (some ⟨rb, 3, none⟩)), (fun v => v = .int .i64 p), (fun v => v = .pointer (some ⟨rb, 0, none⟩)), (fun v => v = .pointer (some ⟨rb, 0, none⟩)), (fun v => v = .pointer (some ⟨rb, 2, none⟩)), (fun v => v = .int .i64 er), (fun _ => True), (fun v => v = .int .i64 p)] [[], [], [1], [2], [3], [], [5], [6], [7], [0], [4]] [none, none, none, none, none, none, none, none, none, some 0, none] (by kernel_rfl) (by kernel_rfl) HZ0.out HCZ ⟨?s0, ?s1, ?s2, ?s3, ?s4, ?s5, ?s6, ?s7, ?s8, ?s9, ?s10, trivial⟩ ?_
        all_goals clear HCZ
        case s0 | s1 | s5 =>
          intro w' hC
          show wpList _ _ _ _ _ _
          go_wp2
          exact ⟨rfl, rfl, rfl⟩
        case s2 | s3 | s6 | s7 | s10 =>
          intro w' hC v1 hv1
          obtain rfl : v1 = _ := hv1
          show wpList _ _ _ _ _ _
          simp only [Grow.dstOf, List.getElem?_toArray, List.getElem?_cons_succ, List.getElem?_cons_zero, Option.bind_some, Act.put, List.setIfInBounds_toArray, List.set_cons_succ, List.set_cons_zero]
          go_wp2
          exact ⟨rfl, rfl, rfl⟩
        case s4 | s8 =>
          intro w' hC v1 hv1
          obtain rfl : v1 = _ := hv1
          obtain ⟨c0, c1, c2, c3⟩ := RD.c hC
          show wpList _ _ _ _ _ _
          simp only [Grow.dstOf, List.getElem?_toArray, List.getElem?_cons_succ, List.getElem?_cons_zero, Option.bind_some, Act.put, List.setIfInBounds_toArray, List.set_cons_succ, List.set_cons_zero]
          go_wp2
          exact ⟨rfl, rfl, rfl⟩
        case s9 =>
          intro v1 hv1
          obtain rfl : v1 = _ := hv1
          show wpList _ _ _ _ _ Z0
          simp only [Grow.dstOf, List.getElem?_toArray, List.getElem?_cons_zero, Option.bind_some, Act.put, List.setIfInBounds_toArray, List.set_cons_succ, List.set_cons_zero]
          refine wpList_store_row rfl _ _ _ rfl w.heap.size (vAr 0 0 eB (.slice none 0 0) (.slice none 0 0)) rfl rfl _ _ HT0'.out (v_inf5 _ _ _ _ _) rfl (v_all5 _ _ _ _ _ _ _ _ _) ?_
          go_wp2
          exact ⟨trivial, HZ1.out.symm, rfl⟩
        intro v0 h0 v1 h1 v2 h2 v3 h3 v4 h4 v5 h5 v6 h6 v7 h7 v8 h8 v9 h9 v10 h10
        obtain rfl : v8 = _ := h8 rfl
        obtain rfl : v10 = _ := h10 rfl
        clear h0 h1 h2 h3 h4 h5 h6 h7 h9
        show wpList _ _ _ [_] _ Z1
        simp only [Act.put, List.setIfInBounds_toArray, List.set_cons_succ, List.set_cons_zero]
        go_wp2
        refine bodyPost_ret (v := .tuple #[.agg (vAr 0 0 eB (.slice none 0 0) (.slice none 0 0)), .int .i64 p, .int .i64 er]) (results_row_tmps rfl _ _ _ _ _ _ _ _ _ rfl HT1'.out Tryz.underlying25 rfl (v_inf5 _ _ _ _ _) rfl rfl) rfl ?_
        refine ⟨_, by rw [HFX.out], by rw [HFX.out]; exact fun Z _ => rep_zero Z, HB1.out, fun h9 => ?_⟩
        rw [HFX.out] at h9
        exact absurd h9 HEX.out
        
end Fd
end Go.Proofs.YtbhcfmdogdaodaaGreatDoor
