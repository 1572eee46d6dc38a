/- CheckTest of package decide; slices.Equal at trials and at ints that are the same. Printed by gen_lawtrl.py. The walk of the law of trials: for every test, all subjects and trials it returns true, where the table of strconv lies. Printed by gen_lawtrl.py. -/
import Derived.Test.YtemenlcigengeaaGreatDoorTq15
import Derived.Test.YtemenlcigengeaaGreatDoorTq22
import Derived.Test.YtemenlcigengeaaGreatDoorTq36
import Derived.Test.YtemenlcigengeaaGreatDoorTq37
import Derived.Test.YtemenlcigengeaaGreatDoorTq21
import Derived.Test.YtemenlcigengeaaGreatDoorTq02
namespace Go.Proofs.YtemenlcigengeaaGreatDoor
open Go.RowKit _root_.Go.Proofs.YtemenlcigengeaaGreatDoor.Nm
namespace Tr
theorem one_cell {w : World} {a : Option Addr} {n c k : Nat} {cs : List Value} {x : Value} (s : Sl w (.slice a n c) n cs) (h : cs[k]? = some x) : ∃ b o, a = some ⟨b, o, none⟩ ∧ w.cell? ⟨b, o + k, none⟩ = some x := by
  obtain ⟨a', cap, hv, _, _, _, h3⟩ := s
  cases hv
  obtain ⟨b, o, rfl, hc⟩ := h3 k x h
  exact ⟨b, o, rfl, hc⟩
set_option maxRecDepth 100000 in
set_option maxHeartbeats 16000000 in
theorem equal_trials (l : List Tri) (a a' : Option Addr) (c c' : Nat) (w : World) (s1 : Sl w (.slice a l.length c) l.length (l.flatMap triL)) (s2 : Sl w (.slice a' l.length c') l.length (l.flatMap triL)) :
    Calls Tryz.prog 10 #[.slice a l.length c, .slice a' l.length c'] w fun e w' => e = .returned (.bool true) ∧ Below w.heap.size w w' := by
  have hl := s1.len_le
  have hne : ((l.length : Int) != (l.length : Int)) = false := by simp
  go_enter Tryz.func10, Tryz.ntmps10
  go_wp2
  go_loopw [13] (fun i wr => ∃ k : Nat, k ≤ l.length ∧ i = .int .i64 k ∧ Below w.heap.size w wr) (fun i _ => l.length - (intOf i).toNat)
  case atStart => exact ⟨0, by omega, rfl, Below.refl _ _⟩
  case round =>
    obtain ⟨k, hk, rfl, hb⟩ := hrel
    by_cases hlt : k < l.length
    · have hgk := List.getElem?_eq_getElem hlt
      generalize l[k] = s at hgk
      obtain ⟨b, o, rfl, hcs⟩ := (s1.ext hb).elem triL_len (by omega : 0 < 2) hgk
      obtain ⟨b', o', rfl, hcs'⟩ := (s2.ext hb).elem triL_len (by omega : 0 < 2) hgk
      have e0 := hcs 0 _ rfl
      have f0 := hcs' 0 _ rfl
      have e1 := hcs 1 _ rfl
      have f1 := hcs' 1 _ rfl
      rw [Nat.add_zero] at e0 f0
      clear hcs hcs' hgk
      have hi0 : (0 : Int) ≤ (k : Int) := Int.natCast_nonneg _
      have hi1 : (k : Int) < (l.length : Int) := by omega
      go_wp2_with fail
      go_quiet (fail)
      go_wp2
      exact ⟨⟨k + 1, by omega, by go_num, below_drewN hb _⟩, by simp [intOf]; omega⟩
    · go_wp2
      go_ret
      exact ⟨rfl, hb⟩
set_option maxRecDepth 100000 in
set_option maxHeartbeats 16000000 in
theorem equal_ints (l : List Int) (a a' : Option Addr) (c c' : Nat) (w : World) (s1 : Sl w (.slice a l.length c) l.length (l.map (Value.int .i64))) (s2 : Sl w (.slice a' l.length c') l.length (l.map (Value.int .i64))) :
    Calls Tryz.prog 13 #[.slice a l.length c, .slice a' l.length c'] w fun e w' => e = .returned (.bool true) ∧ Below w.heap.size w w' := by
  have hl := s1.len_le
  have hne : ((l.length : Int) != (l.length : Int)) = false := by simp
  go_enter Tryz.func13, Tryz.ntmps13
  go_wp2
  go_loopw [13] (fun i wr => ∃ k : Nat, k ≤ l.length ∧ i = .int .i64 k ∧ Below w.heap.size w wr) (fun i _ => l.length - (intOf i).toNat)
  case atStart => exact ⟨0, by omega, rfl, Below.refl _ _⟩
  case round =>
    obtain ⟨k, hk, rfl, hb⟩ := hrel
    by_cases hlt : k < l.length
    · have hgk : (l.map (Value.int .i64))[k]? = some ((Value.int .i64) l[k]) := by rw [List.getElem?_map, List.getElem?_eq_getElem hlt]; rfl
      generalize l[k] = s at hgk
      obtain ⟨b, o, rfl, e0⟩ := one_cell (s1.ext hb) hgk
      obtain ⟨b', o', rfl, f0⟩ := one_cell (s2.ext hb) hgk
      have hi0 : (0 : Int) ≤ (k : Int) := Int.natCast_nonneg _
      have hi1 : (k : Int) < (l.length : Int) := by omega
      clear hgk
      go_wp2_with fail
      go_quiet (fail)
      go_wp2
      exact ⟨⟨k + 1, by omega, by go_num, below_drewN hb _⟩, by simp [intOf]; omega⟩
    · go_wp2
      go_ret
      exact ⟨rfl, hb⟩
set_option maxRecDepth 100000 in
set_option maxHeartbeats 16000000 in
theorem progTest_at (d k : Int) (n m : ByteArray) (hn : n.size ≤ maxLen) (hm : m.size ≤ maxLen) (w : World) : Calls Tryz.prog 8 #[.agg #[.int .i64 d, .int .i64 k, .string n, .string m]] w (fun e w' => e = .returned (.int .i64 (testF d k n m)) ∧ Below w.heap.size w w') := by
  have HC := Lib.hid (fun W => readTest_at d k n m hn hm W)
  go_enter Tryz.func8, Tryz.ntmps8
  go_upto_region 1 with (fail)
  refine wp_box1 fun W hsz hbW hA => ?_
  have a0 : W.cell? ⟨w.heap.size, 0, none⟩ = some (.int .i64 d) := hA.2 0
  have a1 : W.cell? ⟨w.heap.size, 1, none⟩ = some (.int .i64 k) := hA.2 1
  have a2 : W.cell? ⟨w.heap.size, 2, none⟩ = some (.string n) := hA.2 2
  have a3 : W.cell? ⟨w.heap.size, 3, none⟩ = some (.string m) := hA.2 3
  clear hsz hA
  go_wp2_with fail
  refine (HC.out W).mono ?_
  rintro e w2 ⟨dd, kk, b, a1, n1, c1, a2, n2, c2, rfl, _, hb2⟩
  obtain ⟨f, hf⟩ : ∃ z, testF d k n m = z := ⟨_, rfl⟩
  have HFF := Lib.hid hf
  rw [hf]
  have hb3 := ext_trans hbW hb2
  have hsz := hb3.size
  clear hf hbW hb2 HC
  go_wp2
  go_ret
  exact ⟨by rw [HFF.out]; rfl, by go_grown⟩
end Tr
end Go.Proofs.YtemenlcigengeaaGreatDoor
namespace Go.Proofs.YtemenlcigengeaaGreatDoor.lawTrl
open Go.RowKit _root_.Go.Proofs.YtemenlcigengeaaGreatDoor.Nm
open _root_.Go.Proofs.YtemenlcigengeaaGreatDoor.Nt (Tab Tab.ext)
open _root_.Go.Proofs.YtemenlcigengeaaGreatDoor.Tr
open _root_.Go.Proofs.YtemenlcigengeaaGreatDoor.Rw (wp_region_below callsGrow GrownOf GrownOf.of)
set_option maxRecDepth 100000 in
set_option maxHeartbeats 16000000 in
theorem walk (d k : Int) (n m : ByteArray) (hn : n.size ≤ maxLen) (hm : m.size ≤ maxLen) (l : List Sbj) (a : Option Addr) (c : Nat) (z o : Int) (ts : List Tri) (a' : Option Addr) (c' : Nat) (w : World) (hs : Sl w (.slice a l.length c) l.length (l.flatMap sbL)) (hs' : Sl w (.slice a' ts.length c') ts.length (ts.flatMap triL)) (ht : Tab w) :
    Calls Tryz.prog 3 #[.agg #[.int .i64 d, .int .i64 k, .string n, .string m], .slice a l.length c, .int .i64 z, .int .i64 o, .slice a' ts.length c'] w fun e w' => e = .returned (.bool true) ∧ Below w.heap.size w w' := by
  have HS := Lib.hid hs
  have HS2 := Lib.hid hs'
  have HT := Lib.hid ht
  have HSZ := Lib.hid (And.intro hn hm)
  clear hs hs' ht hn hm
  go_enter Tryz.func3, Tryz.ntmps3
  go_upto_region 1 with (fail)
  refine wp_box1 fun W hsz hbW hA => ?_
  have HA := Lib.hid hA
  have HBW := Lib.hid hbW
  clear hsz hA hbW
  go_wp2_with fail
  refine (trials_at l z o a c W (HS.out.ext HBW.out)).mono ?_
  rintro e w2 ⟨L1, p1, q1, rfl, s1, r1, hb2⟩
  have HS1 := Lib.hid s1
  have HR1 := Lib.hid r1
  have HB2 := Lib.hid (ext_trans HBW.out hb2)
  have HA2 := Lib.hid (HA.out.ext hb2)
  clear s1 r1 hb2
  obtain ⟨f, hf⟩ : ∃ f, trlF l.length z o = f := ⟨_, rfl⟩
  have HF := Lib.hid hf
  rw [hf]
  clear hf
  go_wp2_with fail
  refine (refTrials_at l z o a c w2 (HS.out.ext HB2.out)).mono ?_
  rintro e w3 ⟨L2, p2, q2, rfl, s2, r2, hb3⟩
  obtain rfl := HR1.out.unique r2
  have HS3 := Lib.hid s2
  have HS1' := Lib.hid (HS1.out.ext hb3)
  have HB3 := Lib.hid (ext_trans HB2.out hb3)
  have HA3 := Lib.hid (HA2.out.ext hb3)
  rw [HF.out]
  clear s2 r2 hb3 HS1 HR1 HA HA2 HB2
  have hx0 : ∀ p : GrownOf w3, p.v.cell? ⟨w.heap.size, 0, none⟩ = some (.int .i64 d) := fun p => (HA3.out.ext p.b).2 0
  have hx1 : ∀ p : GrownOf w3, p.v.cell? ⟨w.heap.size, 1, none⟩ = some (.int .i64 k) := fun p => (HA3.out.ext p.b).2 1
  have hx2 : ∀ p : GrownOf w3, p.v.cell? ⟨w.heap.size, 2, none⟩ = some (.string n) := fun p => (HA3.out.ext p.b).2 2
  have hx3 : ∀ p : GrownOf w3, p.v.cell? ⟨w.heap.size, 3, none⟩ = some (.string m) := fun p => (HA3.out.ext p.b).2 3
  obtain ⟨tf, htf⟩ : ∃ x, testF d k n m = x := ⟨_, rfl⟩
  have h1 : ∀ p : GrownOf w3, Calls Tryz.prog 8 #[.agg #[.int .i64 d, .int .i64 k, .string n, .string m]] p.v fun e w' => e = .returned (.int .i64 tf) ∧ Below p.v.heap.size p.v w' := fun p => by rw [← htf]; exact progTest_at d k n m HSZ.out.1 HSZ.out.2 p.v
  have h2 : ∀ p : GrownOf w3, Calls Tryz.prog 9 #[.agg #[.int .i64 d, .int .i64 k, .string n, .string m]] p.v fun e w' => e = .returned (.int .i64 tf) ∧ Below p.v.heap.size p.v w' := fun p => by rw [← htf]; exact Nt.checkTest_at d k n m HSZ.out.1 HSZ.out.2 p.v (HT.out.ext (ext_trans HB3.out p.b))
  have h3 : ∀ p : GrownOf w3, Calls Tryz.prog 10 #[.slice p1 L1.length q1, .slice p2 L1.length q2] p.v fun e w' => e = .returned (.bool true) ∧ Below p.v.heap.size p.v w' := fun p => equal_trials L1 p1 p2 q1 q2 p.v (HS1'.out.ext p.b) (HS3.out.ext p.b)
  clear htf
  go_wp2_with fail
  refine wp_region_below (by kernel_rfl) (by kernel_rfl) ?_
  repeat (quiet_step (first | (go_at_call 8; refine callsGrow (h1 _)) | (go_at_call 9; refine callsGrow (h2 _)) | (go_at_call 10; refine callsGrow (h3 _))))
  refine wpQuiet_nil ?_
  intro wq hw'
  have hbq := GrownOf.of hw'
  clear hw' hx0 hx1 hx2 hx3 h1 h2 h3
  have HBQ := Lib.hid (ext_trans HB3.out hbq)
  clear hbq HB3 HS1' HS3 HA3
  obtain ⟨PL, hPL⟩ : ∃ x, pairL ts = x := ⟨_, rfl⟩
  obtain ⟨pf, hpf⟩ : ∃ x, pairF ts = x := ⟨_, rfl⟩
  have HP := Lib.hid (And.intro hPL hpf)
  clear hPL hpf
  go_wp2_with fail
  refine (decide_Pairs ts a' c' wq (HS2.out.ext HBQ.out)).mono ?_
  rw [HP.out.1, HP.out.2]
  rintro e w5 ⟨p5, q5, rfl, s5, hb5⟩
  have HB5 := Lib.hid (ext_trans HBQ.out hb5)
  have HS5 := Lib.hid s5
  clear s5 hb5
  go_wp2_with fail
  refine (Nt.refPairs_at ts a' c' w5 (HS2.out.ext HB5.out)).mono ?_
  rw [HP.out.1, HP.out.2]
  rintro e w6 ⟨p6, q6, rfl, s6, hb6⟩
  have HB6 := Lib.hid (ext_trans HB5.out hb6)
  have HEQ := Lib.hid (equal_ints PL p5 p6 q5 q6 w6 (HS5.out.ext hb6) s6)
  clear s6 hb6
  go_wp2_with fail
  refine HEQ.out.mono ?_
  rintro e w7 ⟨rfl, hb7⟩
  have HB7 := Lib.hid (ext_trans HB6.out hb7)
  clear hb7 HEQ
  go_wp2
  go_ret
  exact ⟨by simp, HB7.out⟩
end Go.Proofs.YtemenlcigengeaaGreatDoor.lawTrl
