/- merge of package value. Printed by gen_vmrg.py. seen and spare of package value. Printed by gen_vchk.py. -/
import Derived.Test.YtbhcfmdogdaodaaDoorTe06
import Derived.Test.YtbhcfmdogdaodaaDoorTe03
import Derived.Test.YtbhcfmdogdaodaaDoorTe04
import Derived.Test.YtbhcfmdogdaodaaDoorTe00
import Derived.Test.YtbhcfmdogdaodaaDoorTe02
import Derived.Deep.RegionWith
import Derived.Deep.LoopGhost
import Derived.Deep.QuietTactic
import Derived.Deep.Cut
import Derived.Deep.RegionLaw
import Derived.Sort.WalkB12
import Derived.Lib.SlicesDelete
import Derived.Lib.Walk
import Derived.Maps.AppendAt
import Derived.Test.YtbhcfmdogdaodaaDoorTe01
import Derived.Deep.DeepCutAuto
namespace Go.Proofs.YtbhcfmdogdaodaaDoor
open Go.RowKit
namespace Fd
open _root_.Go.Proofs.YtbhcfmdogdaodaaDoor.Nt (RH RH.cell RH.box RH.lt RH.new RH.ext RH.fre RH.set RH.other)
open _root_.Go.Proofs.YtbhcfmdogdaodaaDoor.Rw (All2 All2.get All2.length wpList_load_agg wp_stored fl_at Kept Fresh own_mono own_base)
theorem v_inf5 (k n : Int) (s : ByteArray) (v1 v2 : Value) : (Tryd.prog.info? 25).map (·.size) = some (vAr k n s v1 v2).size := by
  show (Tryd.prog.info? 25).map (·.size) = some 5
  kernel_rfl
theorem v_all5 (k n : Int) (s : ByteArray) (a1 a2 : Option Addr) (m1 m2 q1 q2 : Nat) : (vAr k n s (.slice a1 m1 q1) (.slice a2 m2 q2)).all (·.oneCell') = true := by simp [vAr, Value.oneCell']
abbrev eB : ByteArray := ⟨#[]⟩
/-- what stands while a patch is laid on: the variable that is answered, and the result's block -/
structure MInv (w X : World) (d : Nat) (vi v4 : Value) : Prop where
  rd : RH X d (vAr 5 0 eB vi v4) 25
  rr : ∃ A, RH X (w.heap.size + 2) A 25 ∧ A.size = 5
  bx : Below w.heap.size w X
section
variable {w X X' : World} {d : Nat} {vi v4 : Value}
theorem MInv.ext (h : MInv w X d vi v4) (hb : Below X.heap.size X X') : MInv w X' d vi v4 :=
  ⟨h.rd.ext hb, by obtain ⟨A, a, b⟩ := h.rr; exact ⟨A, a.ext hb, b⟩, ext_trans h.bx hb⟩
theorem MInv.grown (h : MInv w X d vi v4) (hd : w.heap.size + 2 < d) {r : Option Nat} (hg : X.grownBy X' r) (hr : ∀ q, r = some q → d < q) : MInv w X' d vi v4 :=
  ⟨Rw.rh_grown h.rd hg (fun e => by have := hr d e.symm; omega), by obtain ⟨A, a, b⟩ := h.rr; exact ⟨A, Rw.rh_grown a hg (fun e => by have := hr _ e.symm; omega), b⟩, h.bx.grown hg h.bx.size (fun q hq => by have := hr q hq; omega)⟩
theorem MInv.c4 (h : MInv w X d vi v4) : X.cell? ⟨d, 4, none⟩ = some v4 := h.rd.cell 4
end
theorem rep_zero (w : World) : RepV w V0 [.int .i64 0, .int .i64 0, .string eB, .slice none 0 0, .slice none 0 0] := by
  have := rep_mk (w := w) (k := 0) (n := 0) (s := ByteArray.empty) (is := []) (fs := []) (EI := []) (E := []) ⟨by unfold i64ok; omega, by unfold i64ok; omega, by decide⟩ (Sl.nil w) trivial (Sl.nil w) trivial
  exact this
end Fd
end Go.Proofs.YtbhcfmdogdaodaaDoor
namespace Go.Proofs.YtbhcfmdogdaodaaDoor
open Go.RowKit
namespace Fd
open _root_.Go.Proofs.YtbhcfmdogdaodaaDoor.Nt (RH RH.cell RH.box RH.lt RH.new RH.ext RH.fre RH.set RH.other)
theorem ret_bool {a b : Bool} (h : a = b) : Ending.returned (.bool a) = .returned (.bool b) := by rw [h]
theorem take_byte (s : ByteArray) (k : Nat) (hk : k < s.size) : s.data.toList.take (k + 1) = s.data.toList.take k ++ [s[k]] := by
  have h : k < s.data.toList.length := by simpa using hk
  rw [List.take_succ_eq_append_getElem h]; rfl
theorem toList_nil {s : ByteArray} : s.toList = [] ↔ s.size = 0 := by
  rw [ByteArray.toList_eq]
  have h : s.data.toList.length = s.size := Array.length_toList
  constructor
  · intro e; rw [e] at h; exact h.symm
  · intro e; exact List.eq_nil_of_length_eq_zero (h.trans e)
theorem all_snoc (p : UInt8 → Bool) (s : ByteArray) (k : Nat) (hk : k < s.size) (h : (s.data.toList.take k).all p = true) (hp : p s[k] = true) : (s.data.toList.take (k + 1)).all p = true := by
  rw [take_byte s k hk, List.all_append, h]; simp [hp]
theorem all_not (p : UInt8 → Bool) (s : ByteArray) (k : Nat) (hk : k < s.size) (hp : p s[k] = false) : s.data.toList.all p = false := by
  rw [List.all_eq_false]
  exact ⟨s[k], by rw [show s[k] = s.data.toList[k]'(by simpa using hk) from rfl]; exact List.getElem_mem _, by simp [hp]⟩
theorem all_end (p : UInt8 → Bool) (s : ByteArray) (k : Nat) (hk : ¬ k < s.size) (h : (s.data.toList.take k).all p = true) : s.data.toList.all p = true := by
  rwa [List.take_of_length_le (by simp; omega)] at h
set_option maxRecDepth 100000 in
set_option maxHeartbeats 8000000 in
theorem seen_at (s : ByteArray) (hs : s.size ≤ maxLen) (w : World) : Calls Tryd.prog 51 #[.string s] w fun e w' => e = .returned (.bool (seenB s)) ∧ w = w' := by
  unfold maxLen at hs
  go_enter Tryd.func51, Tryd.ntmps51
  go_wp2
  go_loop [6] (fun i => ∃ k : Nat, k ≤ s.size ∧ i = .int .i64 k ∧ Hid ((s.data.toList.take k).all seenC = true)) (fun i => s.size - (intOf i).toNat)
  case atStart => exact ⟨0, by omega, rfl, rfl⟩
  case round =>
    obtain ⟨k, hk, rfl, HA⟩ := hrel
    by_cases hlt : k < s.size
    · by_cases h1 : 32 ≤ (s[k].toNat : Int)
      · by_cases h2 : (s[k].toNat : Int) ≤ 126
        · have HW : Hid (seenC s[k] = true) := by exact (by unfold seenC; simp; omega : seenC s[k] = true)
          go_wp2
          go_round
          case rel => exact ⟨k + 1, by omega, by go_num, all_snoc _ _ _ hlt HA.out HW.out⟩
          case measure => simp [intOf]; omega
        · have HW : Hid (seenB s = false) := Lib.hid (all_not seenC _ _ hlt (by unfold seenC; simp; omega))
          go_wp2
          go_ret
          exact ⟨ret_bool HW.out.symm, rfl⟩
      · have HW : Hid (seenB s = false) := Lib.hid (all_not seenC _ _ hlt (by unfold seenC; simp; omega))
        go_wp2
        go_ret
        exact ⟨ret_bool HW.out.symm, rfl⟩
    · have HW : Hid (seenB s = true) := Lib.hid (all_end seenC _ _ hlt HA.out)
      go_wp2
      go_ret
      exact ⟨ret_bool HW.out.symm, rfl⟩
set_option maxRecDepth 100000 in
set_option maxHeartbeats 8000000 in
theorem spare_at (k n : Int) (s : ByteArray) (ai af : Option Addr) (ni nf ci cf : Nat) (_h1 : ni ≤ maxLen) (_h2 : nf ≤ maxLen) (_h3 : s.size ≤ maxLen) (w : World) :
    Calls Tryd.prog 50 #[.agg #[.int .i64 k, .int .i64 n, .string s, .slice ai ni ci, .slice af nf cf]] w fun e w' => e = .returned (.bool (spareB k n s ni nf)) ∧ Below w.heap.size w w' := by
  unfold maxLen at _h1 _h2 _h3
  have HSP : Hid (spareB k n s ni nf = ((decide (n ≠ 0) && decide (k ≠ 1) && decide (k ≠ 2)) || (decide (s.toList ≠ []) && decide (k ≠ 3)) || (decide (0 < ni) && decide (k ≠ 4)) || (decide (0 < nf) && decide (k ≠ 5)))) := Lib.hid (by
    have e1 : decide (s.toList ≠ []) = decide (s.size ≠ 0) := by rw [decide_eq_decide]; exact not_congr toList_nil
    rw [e1]; rfl)
  generalize spareB k n s ni nf = B at *
  go_enter Tryd.func50, Tryd.ntmps50
  go_upto_region 1 with (fail)
  refine wp_box1 fun W hszW hbW hA => ?_
  have a0 : W.cell? ⟨w.heap.size, 0, none⟩ = some (.int .i64 k) := hA.2 0
  have a1 : W.cell? ⟨w.heap.size, 1, none⟩ = some (.int .i64 n) := hA.2 1
  have a2 : W.cell? ⟨w.heap.size, 2, none⟩ = some (.string s) := hA.2 2
  have a3 : W.cell? ⟨w.heap.size, 3, none⟩ = some (.slice ai ni ci) := hA.2 3
  have a4 : W.cell? ⟨w.heap.size, 4, none⟩ = some (.slice af nf cf) := hA.2 4
  clear hszW hA
  go_wp2_with fail
  all_goals go_ret
  all_goals refine ⟨ret_bool ?_, hbW⟩
  all_goals rw [HSP.out]
  all_goals clear a0 a1 a2 a3 a4 HSP hbW
  all_goals simp_all
  all_goals first | done | omega | (rw [Bool.eq_iff_iff]; simp; done) | trace_state
end Fd
end Go.Proofs.YtbhcfmdogdaodaaDoor
