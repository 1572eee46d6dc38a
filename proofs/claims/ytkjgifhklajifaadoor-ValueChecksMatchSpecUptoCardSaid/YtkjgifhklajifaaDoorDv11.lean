/- Check, checkTwo and checked of package value. Printed by gen_vck.py. Plain: what Merge and Patch answer, with their errors; a value mended by its patch is the other one. No program stands in it. What Merge, Patch and their parts answer; a result in a cell beside one in a slot. show of package value: a value's text written to a builder. Printed by gen_vsh.py. show of package value: lists. Printed by gen_vsh.py. -/
import Derived.Test.YtkjgifhklajifaaDoorDv10
import Derived.Test.YtkjgifhklajifaaDoorDv04
import Derived.Test.YtkjgifhklajifaaDoorDv01
import Derived.Test.YtkjgifhklajifaaDoorDv09
namespace Go.Proofs.YtkjgifhklajifaaDoor
open Go.RowKit
namespace Fd
open _root_.Go.Proofs.YtkjgifhklajifaaDoor.Nt (RH RH.cell RH.box RH.lt RH.new RH.ext RH.fre RH.set RH.other)
open _root_.Go.Proofs.YtkjgifhklajifaaDoor.Rw (wpList_load_agg)
set_option maxRecDepth 100000 in
set_option maxHeartbeats 8000000 in
theorem check_at (x : V) (cs : List Value) (w : World) (h : RepV w x cs) : Calls Tryd.prog 11 #[.agg cs.toArray] w fun e w' => e = .returned (.int .i64 (chkF x)) ∧ Below w.heap.size w w' := by
  obtain ⟨k0, n0, s0, ai, m, q, af, m', q', rfl⟩ := V5 h
  have HX := Lib.hid h
  have HCK : Hid (∀ p c : Int, IntKind.i64.wrap (pN x : Int) = p → cW x = c → chkF x = if 1000 < p ∨ 8 < c then 2 else chkV x) := Lib.hid (fun p c h1 h2 => by unfold chkF; rw [h1, h2])
  clear h
  go_enter Tryd.func11, Tryd.ntmps11
  go_upto_region 1 with (fail)
  refine wp_box1 fun W hszW hbW hA => ?_
  have a0 : W.cell? ⟨w.heap.size, 0, none⟩ = some (.int .i64 k0) := hA.2 0
  have a1 : W.cell? ⟨w.heap.size, 1, none⟩ = some (.int .i64 n0) := hA.2 1
  have a2 : W.cell? ⟨w.heap.size, 2, none⟩ = some (.string s0) := hA.2 2
  have a3 : W.cell? ⟨w.heap.size, 3, none⟩ = some (.slice ai m q) := hA.2 3
  have a4 : W.cell? ⟨w.heap.size, 4, none⟩ = some (.slice af m' q') := hA.2 4
  have HA0 := Lib.hid hA.1
  clear hszW hA
  go_wp2_with fail
  refine (countV x _ W (RepV.ext hbW HX.out)).mono ?_
  rintro e w1 ⟨rfl, hb1⟩
  obtain ⟨pn, hpn⟩ : ∃ z, IntKind.i64.wrap (pN x : Int) = z := ⟨_, rfl⟩
  obtain ⟨cw, hcw⟩ : ∃ z, cW x = z := ⟨_, rfl⟩
  have HC := Lib.hid (HCK.out pn cw hpn hcw)
  rw [hpn, hcw]
  have hw1 := ext_trans hbW hb1
  replace a0 := cell_later hb1 a0
  replace a1 := cell_later hb1 a1
  replace a2 := cell_later hb1 a2
  replace a3 := cell_later hb1 a3
  replace a4 := cell_later hb1 a4
  clear hpn hcw HCK hbW hb1
  by_cases h1 : 1000 < pn
  · have HN := Lib.hid (HC.out.trans (if_pos (.inl h1)))
    clear HC
    go_wp2_with fail
    go_ret
    exact ⟨ret_int HN.out.symm, hw1⟩
  · by_cases h2 : 8 < cw
    · have HN := Lib.hid (HC.out.trans (if_pos (.inr h2)))
      clear HC
      go_wp2_with fail
      go_ret
      exact ⟨ret_int HN.out.symm, hw1⟩
    · have HN := Lib.hid (HC.out.trans (if_neg (fun h => h.elim h1 h2)))
      clear HC
      go_wp2_with fail
      refine (partV x _ w1 (RepV.ext hw1 HX.out)).mono ?_
      rintro e w2 ⟨rfl, hb2⟩
      go_wp2_with fail
      go_ret
      exact ⟨ret_int HN.out.symm, ext_trans hw1 hb2⟩
end Fd
end Go.Proofs.YtkjgifhklajifaaDoor
namespace Go.Proofs.YtkjgifhklajifaaDoor
namespace Fd
theorem chkF_chkV {x : V} (h : chkF x = 0) : chkV x = 0 := by
  unfold chkF at h
  split at h
  · cases h
  · exact h
end Fd
end Go.Proofs.YtkjgifhklajifaaDoor
namespace Go.Proofs.YtkjgifhklajifaaDoor
open Go.RowKit
namespace Fd
open _root_.Go.Proofs.YtkjgifhklajifaaDoor.Nt (RH RH.cell RH.box RH.lt RH.new RH.ext RH.fre RH.set RH.other)
open _root_.Go.Proofs.YtkjgifhklajifaaDoor.Rw (wpList_load_agg wp_stored Kept Fresh)
theorem va5 {W : World} {b : Nat} {k n : Int} {s : ByteArray} {v1 v2 : Value} {t : TypeId} (h : RH W b (vAr k n s v1 v2) t) : W.cell? ⟨b, 0, none⟩ = some (.int .i64 k) ∧ W.cell? ⟨b, 1, none⟩ = some (.int .i64 n) ∧ W.cell? ⟨b, 2, none⟩ = some (.string s) ∧ W.cell? ⟨b, 3, none⟩ = some v1 ∧ W.cell? ⟨b, 4, none⟩ = some v2 :=
  ⟨h.cell 0, h.cell 1, h.cell 2, h.cell 3, h.cell 4⟩
end Fd
end Go.Proofs.YtkjgifhklajifaaDoor
namespace Go.Proofs.YtkjgifhklajifaaDoor
open Go.RowKit
namespace Fd
open _root_.Go.Proofs.YtkjgifhklajifaaDoor.Nt (RH RH.cell RH.box RH.lt RH.new RH.ext RH.fre RH.set RH.other)
open _root_.Go.Proofs.YtkjgifhklajifaaDoor.Rw (All2 All2.get All2.length wpList_load_agg wp_stored)
theorem below_on {B : Nat} {P : World → Prop} {w w' : World} (h : On (fun q => q < B) P w) (hb : Below B w w') (hs : w.heap.size ≤ w'.heap.size) : On (fun q => q < B) P w' := h.keep hs (fun q _ h2 => hb.block q h2)
theorem comma_le (l : List (List UInt8)) (k : Nat) : (commaL (l.take k)).length ≤ (commaL l).length := by
  have key : ∀ a b : List (List UInt8), (commaL a).length ≤ (commaL (a ++ b)).length := by
    intro a b
    cases a with
    | nil => simp [commaL]
    | cons x r =>
      have hr : ∀ c d : List (List UInt8), runL (c ++ d) = runL c ++ runL d := by
        intro c d
        induction c with
        | nil => rfl
        | cons y s ih => rw [List.cons_append, runL, runL, ih]; simp
      rw [List.cons_append, comma_run, comma_run, hr, List.length_append, List.length_append, List.length_append]
      omega
  have h := key (l.take k) (l.drop k)
  rwa [List.take_append_drop] at h
theorem isb_lt {B b : Nat} {l : List UInt8} {w : World} (h : IsB B b l w) : b < w.heap.size := by
  rcases h with h | h
  · exact h.lt
  · exact h.lt
theorem num_range {n : Int} {s : ByteArray} {is : List V} {fs : List F} (h : chkV (.mk 2 n s is fs) = 0) : -1000000000000000 < n ∧ n < 1000000000000000 := by
  obtain ⟨h1, _⟩ := chkV_ok h
  unfold ownF at h1; split at h1 <;> (try split at h1) <;> (try split at h1) <;> (try split at h1) <;> (try split at h1) <;> (try split at h1) <;> (try (simp at h1; done)) <;> omega
theorem text_range {n : Int} {s : ByteArray} {is : List V} {fs : List F} (h : chkV (.mk 3 n s is fs) = 0) : s.size ≤ 500 := by
  obtain ⟨h1, _⟩ := chkV_ok h
  unfold ownF at h1; split at h1 <;> (try split at h1) <;> (try split at h1) <;> (try split at h1) <;> (try split at h1) <;> (try split at h1) <;> (try (simp at h1; done)) <;> omega
def ShAt (x : V) : Prop := ∀ (B b : Nat) (l : List UInt8) (cs : List Value) (w : World), On (fun q => q < B) (fun Z => RepV Z x cs) w → IsB B b l w → l.length + (wrV x).length ≤ 1000000000 → B ≤ w.heap.size → (∀ W, Below B w W → Tx.Tb W) → chkV x = 0 →
  Calls Tryd.prog 43 #[.pointer (some ⟨b, 0, none⟩), .agg cs.toArray] w (WrPost B b l (wrV x) w)
theorem formatBool_at (bb : Bool) (w : World) : Calls Tryd.prog 74 #[.bool bb] w fun e w' => e = .returned (.string (Tx.stB (if bb = true then [116, 114, 117, 101] else [102, 97, 108, 115, 101]))) ∧ w' = w := by
  have hi : Calls Tryd.prog 100 #[.bool bb] w fun e w' => e = .returned (.string (Tx.stB (if bb = true then [116, 114, 117, 101] else [102, 97, 108, 115, 101]))) ∧ w' = w := by
    go_enter Tryd.func100, Tryd.ntmps100
    cases bb
    · go_wp2
      go_ret
      exact ⟨rfl, rfl⟩
    · go_wp2
      go_ret
      exact ⟨rfl, rfl⟩
  go_enter Tryd.func74, Tryd.ntmps74
  cases bb
  · go_wp2_with fail
    refine hi.mono ?_
    rintro e w' ⟨rfl, rfl⟩
    go_wp2
    go_ret
    exact ⟨rfl, rfl⟩
  · go_wp2_with fail
    refine hi.mono ?_
    rintro e w' ⟨rfl, rfl⟩
    go_wp2
    go_ret
    exact ⟨rfl, rfl⟩
set_option maxRecDepth 100000 in
set_option maxHeartbeats 16000000 in
theorem sh_none (n : Int) (s : ByteArray) (is : List V) (fs : List F) : ShAt (.mk 0 n s is fs) := by
  intro B b l cs w hx hI hlen hBw hTB hck
  obtain ⟨ai, ci, af, cf, EF, rfl, i1, i2, i3, hIS0, hFS⟩ := on_open hx
  obtain ⟨EI, hIS⟩ := on_fix (k := 5) (by omega) (fun _ _ _ h => RepV.len h) hIS0
  clear hIS0
  have HI := Lib.hid hI
  have HLN := Lib.hid hlen
  have HBW := Lib.hid hBw
  have HTB := Lib.hid hTB
  have HCK := Lib.hid hck
  have HIS := Lib.hid hIS
  have HFS := Lib.hid hFS
  have HBL : Hid (b < w.heap.size) := Lib.hid (isb_lt hI)
  clear hx hI hlen hBw hTB hck hIS hFS i1 i2 i3
  go_enter Tryd.func43, Tryd.ntmps43
  go_upto_region 1 with (fail)
  refine Tx.wp_vr1 fun W hbW hR1 => ?_
  obtain ⟨a0, a1, a2, a3, a4⟩ := va5 hR1
  have HI0 := Lib.hid (IsB.ext HI.out hbW)
  have HB0 : Hid (Below B w W) := Lib.hid (hbW.mono HBW.out)
  have HK0 := Lib.hid (BK.below (b := b) hbW)
  have HS0 := Lib.hid hbW.size
  have HR1 := Lib.hid hR1
  clear hR1 hbW
  go_wp2_with fail
  refine (wstr B b l (Tx.stB [110, 117, 108, 108]) W HI0.out (by rw [Tx.stB_size]; have := HLN.out; simp only [List.length_cons, List.length_nil]; omega) (Nat.le_trans HBW.out HS0.out)).mono ?_
  rintro e w3 ⟨rfl, h3, hb3, hk3, hs3⟩
  have HF : Hid (WrPost B b l (wrV (.mk 0 n s is fs)) w (.returned (.tuple #[])) w3) := Lib.hid ⟨rfl, by simpa [wrV, Tx.stB_list] using h3, HB0.out.trans hb3, HK0.out.trans hk3, Nat.le_trans HS0.out hs3⟩
  clear h3 hb3 hk3 hs3
  go_wp2_with fail
  go_end0
  exact HF.out
set_option maxRecDepth 100000 in
set_option maxHeartbeats 16000000 in
theorem sh_bool (n : Int) (s : ByteArray) (is : List V) (fs : List F) : ShAt (.mk 1 n s is fs) := by
  intro B b l cs w hx hI hlen hBw hTB hck
  obtain ⟨ai, ci, af, cf, EF, rfl, i1, i2, i3, hIS0, hFS⟩ := on_open hx
  obtain ⟨EI, hIS⟩ := on_fix (k := 5) (by omega) (fun _ _ _ h => RepV.len h) hIS0
  clear hIS0
  have HI := Lib.hid hI
  have HLN := Lib.hid hlen
  have HBW := Lib.hid hBw
  have HTB := Lib.hid hTB
  have HCK := Lib.hid hck
  have HIS := Lib.hid hIS
  have HFS := Lib.hid hFS
  have HBL : Hid (b < w.heap.size) := Lib.hid (isb_lt hI)
  clear hx hI hlen hBw hTB hck hIS hFS i1 i2 i3
  go_enter Tryd.func43, Tryd.ntmps43
  go_upto_region 1 with (fail)
  refine Tx.wp_vr1 fun W hbW hR1 => ?_
  obtain ⟨a0, a1, a2, a3, a4⟩ := va5 hR1
  have HI0 := Lib.hid (IsB.ext HI.out hbW)
  have HB0 : Hid (Below B w W) := Lib.hid (hbW.mono HBW.out)
  have HK0 := Lib.hid (BK.below (b := b) hbW)
  have HS0 := Lib.hid hbW.size
  have HR1 := Lib.hid hR1
  clear hR1 hbW
  have hn : n = 1 ∨ n ≠ 1 := by omega
  rcases hn with hn | hn
  · have hnb : (n == 1) = true := by simpa using hn
    have HW : Hid (wrV (.mk 1 n s is fs) = [116, 114, 117, 101]) := Lib.hid (by simp [wrV, hn])
    clear hn
    go_wp2_with fail
    refine (formatBool_at true W).mono ?_
    rintro e w9 ⟨rfl, rfl⟩
    go_wp2_with fail
    refine (wstr B b l (Tx.stB [116, 114, 117, 101]) w9 HI0.out (by rw [Tx.stB_size]; have := HLN.out; simp only [List.length_cons, List.length_nil]; omega) (Nat.le_trans HBW.out HS0.out)).mono ?_
    rintro e w3 ⟨rfl, h3, hb3, hk3, hs3⟩
    have HF : Hid (WrPost B b l (wrV (.mk 1 n s is fs)) w (.returned (.tuple #[])) w3) := Lib.hid ⟨rfl, by rw [HW.out]; exact h3, HB0.out.trans hb3, HK0.out.trans hk3, Nat.le_trans HS0.out hs3⟩
    clear h3 hb3 hk3 hs3
    go_wp2_with fail
    go_end0
    exact HF.out
  · have hnb : (n == 1) = false := by simpa using hn
    have HW : Hid (wrV (.mk 1 n s is fs) = [102, 97, 108, 115, 101]) := Lib.hid (by simp [wrV, hn])
    clear hn
    go_wp2_with fail
    refine (formatBool_at false W).mono ?_
    rintro e w9 ⟨rfl, rfl⟩
    go_wp2_with fail
    refine (wstr B b l (Tx.stB [102, 97, 108, 115, 101]) w9 HI0.out (by rw [Tx.stB_size]; have := HLN.out; simp only [List.length_cons, List.length_nil]; omega) (Nat.le_trans HBW.out HS0.out)).mono ?_
    rintro e w3 ⟨rfl, h3, hb3, hk3, hs3⟩
    have HF : Hid (WrPost B b l (wrV (.mk 1 n s is fs)) w (.returned (.tuple #[])) w3) := Lib.hid ⟨rfl, by rw [HW.out]; exact h3, HB0.out.trans hb3, HK0.out.trans hk3, Nat.le_trans HS0.out hs3⟩
    clear h3 hb3 hk3 hs3
    go_wp2_with fail
    go_end0
    exact HF.out
set_option maxRecDepth 100000 in
set_option maxHeartbeats 16000000 in
theorem sh_num (n : Int) (s : ByteArray) (is : List V) (fs : List F) : ShAt (.mk 2 n s is fs) := by
  intro B b l cs w hx hI hlen hBw hTB hck
  obtain ⟨ai, ci, af, cf, EF, rfl, i1, i2, i3, hIS0, hFS⟩ := on_open hx
  obtain ⟨EI, hIS⟩ := on_fix (k := 5) (by omega) (fun _ _ _ h => RepV.len h) hIS0
  clear hIS0
  have HI := Lib.hid hI
  have HLN := Lib.hid hlen
  have HBW := Lib.hid hBw
  have HTB := Lib.hid hTB
  have HCK := Lib.hid hck
  have HIS := Lib.hid hIS
  have HFS := Lib.hid hFS
  have HBL : Hid (b < w.heap.size) := Lib.hid (isb_lt hI)
  clear hx hI hlen hBw hTB hck hIS hFS i1 i2 i3
  go_enter Tryd.func43, Tryd.ntmps43
  go_upto_region 1 with (fail)
  refine Tx.wp_vr1 fun W hbW hR1 => ?_
  obtain ⟨a0, a1, a2, a3, a4⟩ := va5 hR1
  have HI0 := Lib.hid (IsB.ext HI.out hbW)
  have HB0 : Hid (Below B w W) := Lib.hid (hbW.mono HBW.out)
  have HK0 := Lib.hid (BK.below (b := b) hbW)
  have HS0 := Lib.hid hbW.size
  have HR1 := Lib.hid hR1
  clear hR1 hbW
  have HW : Hid (wrV (.mk 2 n s is fs) = numT n) := Lib.hid (by simp [wrV])
  have HNR : Hid (-1000000000000000 < n ∧ n < 1000000000000000) := Lib.hid (num_range HCK.out)
  go_wp2_with fail
  refine (thousandths_at B b l n W (HTB.out W HB0.out) HI0.out (by have := HLN.out; omega) (Nat.le_trans HBW.out HS0.out) (fun X hX => HTB.out X (HB0.out.trans hX)) HNR.out.1 HNR.out.2).mono ?_
  rintro e w3 ⟨rfl, h3, hb3, hk3, hs3⟩
  have HF : Hid (WrPost B b l (wrV (.mk 2 n s is fs)) w (.returned (.tuple #[])) w3) := Lib.hid ⟨rfl, by rw [HW.out]; exact h3, HB0.out.trans hb3, HK0.out.trans hk3, Nat.le_trans HS0.out hs3⟩
  clear h3 hb3 hk3 hs3
  go_wp2_with fail
  go_end0
  exact HF.out
set_option maxRecDepth 100000 in
set_option maxHeartbeats 16000000 in
theorem sh_text (n : Int) (s : ByteArray) (is : List V) (fs : List F) : ShAt (.mk 3 n s is fs) := by
  intro B b l cs w hx hI hlen hBw hTB hck
  obtain ⟨ai, ci, af, cf, EF, rfl, i1, i2, i3, hIS0, hFS⟩ := on_open hx
  obtain ⟨EI, hIS⟩ := on_fix (k := 5) (by omega) (fun _ _ _ h => RepV.len h) hIS0
  clear hIS0
  have HI := Lib.hid hI
  have HLN := Lib.hid hlen
  have HBW := Lib.hid hBw
  have HTB := Lib.hid hTB
  have HCK := Lib.hid hck
  have HIS := Lib.hid hIS
  have HFS := Lib.hid hFS
  have HBL : Hid (b < w.heap.size) := Lib.hid (isb_lt hI)
  clear hx hI hlen hBw hTB hck hIS hFS i1 i2 i3
  go_enter Tryd.func43, Tryd.ntmps43
  go_upto_region 1 with (fail)
  refine Tx.wp_vr1 fun W hbW hR1 => ?_
  obtain ⟨a0, a1, a2, a3, a4⟩ := va5 hR1
  have HI0 := Lib.hid (IsB.ext HI.out hbW)
  have HB0 : Hid (Below B w W) := Lib.hid (hbW.mono HBW.out)
  have HK0 := Lib.hid (BK.below (b := b) hbW)
  have HS0 := Lib.hid hbW.size
  have HR1 := Lib.hid hR1
  clear hR1 hbW
  have HW : Hid (wrV (.mk 3 n s is fs) = quoL s.data.toList) := Lib.hid (by simp [wrV])
  have HSZ : Hid (s.size ≤ 500) := Lib.hid (text_range HCK.out)
  go_wp2_with fail
  refine (quote_at B b l s W HI0.out (by have := HLN.out; have := HSZ.out; omega) (Nat.le_trans HBW.out HS0.out)).mono ?_
  rintro e w3 ⟨rfl, h3, hb3, hk3, hs3⟩
  have HF : Hid (WrPost B b l (wrV (.mk 3 n s is fs)) w (.returned (.tuple #[])) w3) := Lib.hid ⟨rfl, by rw [HW.out]; exact h3, HB0.out.trans hb3, HK0.out.trans hk3, Nat.le_trans HS0.out hs3⟩
  clear h3 hb3 hk3 hs3
  go_wp2_with fail
  go_end0
  exact HF.out
end Fd
end Go.Proofs.YtkjgifhklajifaaDoor
namespace Go.Proofs.YtkjgifhklajifaaDoor
open Go.RowKit
namespace Fd
open _root_.Go.Proofs.YtkjgifhklajifaaDoor.Nt (RH RH.cell RH.box RH.lt RH.new RH.ext RH.fre RH.set RH.other)
open _root_.Go.Proofs.YtkjgifhklajifaaDoor.Rw (All2 All2.get All2.length wpList_load_agg wp_stored)
set_option maxRecDepth 100000 in
set_option maxHeartbeats 16000000 in
theorem sh_list (n : Int) (s : ByteArray) (is : List V) (fs : List F) (HS0 : ∀ x ∈ is, ShAt x) : ShAt (.mk 4 n s is fs) := by
  have HSH := Lib.hid HS0
  clear HS0
  intro B b l cs w hx hI hlen hBw hTB hck
  obtain ⟨ai, ci, af, cf, EF, rfl, i1, i2, i3, hIS0, hFS⟩ := on_open hx
  obtain ⟨EI, hIS⟩ := on_fix (k := 5) (by omega) (fun _ _ _ h => RepV.len h) hIS0
  clear hIS0
  have HI := Lib.hid hI
  have HLN := Lib.hid hlen
  have HBW := Lib.hid hBw
  have HTB := Lib.hid hTB
  have HCK := Lib.hid hck
  have HIS := Lib.hid hIS
  have HFS := Lib.hid hFS
  have HBL : Hid (b < w.heap.size) := Lib.hid (isb_lt hI)
  clear hx hI hlen hBw hTB hck hIS hFS i1 i2 i3
  go_enter Tryd.func43, Tryd.ntmps43
  go_upto_region 1 with (fail)
  refine Tx.wp_vr1 fun W hbW hR1 => ?_
  obtain ⟨a0, a1, a2, a3, a4⟩ := va5 hR1
  have HI0 := Lib.hid (IsB.ext HI.out hbW)
  have HB0 : Hid (Below B w W) := Lib.hid (hbW.mono HBW.out)
  have HK0 := Lib.hid (BK.below (b := b) hbW)
  have HS0 := Lib.hid hbW.size
  have HR1 := Lib.hid hR1
  clear hR1 hbW
  have hck := chkV_ok HCK.out
  have HCI := Lib.hid hck.2.1
  clear hck
  have hlen4 : (is.length : Int) ≤ 9223372036854775807 := by have := (fs_len HCK.out).2; change is.length ≤ 100 at this; omega
  have HW : Hid (wrV (.mk 4 n s is fs) = 91 :: (commaL (wrL is) ++ [93])) := Lib.hid (by simp [wrV])
  have HWL : Hid ((wrL is).length = is.length) := Lib.hid (by rw [wrL_map, List.length_map])
  have HLB : Hid (∀ q, (commaL ((wrL is).take q)).length + 2 + l.length ≤ 1000000000) := Lib.hid (fun q => by
    have h1 := comma_le (wrL is) q
    have h2 := HLN.out
    rw [HW.out] at h2
    simp only [List.length_cons, List.length_append, List.length_nil] at h2
    omega)
  go_wp2_with fail
  refine (wbyte B b l 91 W HI0.out (by have := HLN.out; omega) (Nat.le_trans HBW.out HS0.out)).mono ?_
  rintro e w3 ⟨rfl, h3, hb3, hk3, hs3⟩
  have HI1 : Hid (IsB B b (l ++ 91 :: commaL ((wrL is).take 0)) w3) := Lib.hid (by simpa [commaL] using h3)
  have HB1 := Lib.hid (HB0.out.trans hb3)
  have HK1 := Lib.hid (HK0.out.trans hk3)
  have HS1 := Lib.hid (Nat.le_trans HS0.out hs3)
  obtain ⟨a0, a1, a2, a3, a4⟩ := va5 (hk3.rh HR1.out (by have := HBL.out; omega) (by decide))
  clear h3 hb3 hk3 hs3 HI0 HB0 HK0 HS0
  go_wp2_with fail
  go_loopw [41] (fun i wr => ∃ q : Nat, q ≤ is.length ∧ i = .int .i64 (q : Int) ∧ Hid (IsB B b (l ++ 91 :: commaL ((wrL is).take q)) wr) ∧ Hid (Below B w wr) ∧ Hid (BK b w wr) ∧ Hid (w.heap.size ≤ wr.heap.size)) (fun i _ => is.length - (intOf i).toNat)
  case atStart => exact ⟨0, Nat.zero_le _, rfl, HI1, HB1, HK1, HS1⟩
  case round =>
    clear HI1 HB1 HK1 HS1
    obtain ⟨q, hq, rfl, HI1, HB1, HK1, HS1⟩ := hrel
    generalize hXX : wr = X at *
    clear hXX a0 a1 a2 a3 a4
    by_cases hlt : q < is.length
    · obtain ⟨x, hxu⟩ : ∃ x, is[q]? = some x := ⟨_, List.getElem?_eq_getElem hlt⟩
      obtain ⟨cy, hcy, hOX⟩ := All2.get (on_allR (On.map HIS.out (fun _ h => h.2))) hxu
      have hry := (below_on hOX HB1.out HS1.out).now
      obtain ⟨p, o, e0, hp0, hcell⟩ := sl_elem (below_on HIS.out HB1.out HS1.out).now.1 (all_len (fun _ _ => RepV.len) (below_on HIS.out HB1.out HS1.out).now.2) (by omega) hcy
      subst e0
      obtain ⟨kx, nx, sx, b1, m1, r1, b2, m2, r2, rfl⟩ := V5 hry
      have HINF := Lib.hid (v_info hry)
      have HONE := Lib.hid (all_arr (RepV.one hry))
      have HOX := Lib.hid hOX
      have HXU : Hid ((wrL is)[q]? = some (wrV x)) := Lib.hid (by rw [wrL_map, List.getElem?_map, hxu]; rfl)
      have HCX : Hid (chkV x = 0) := Lib.hid (HCI.out x (List.mem_of_getElem? hxu))
      have HSX : Hid (ShAt x) := Lib.hid (HSH.out x (List.mem_of_getElem? hxu))
      have hqi : (q : Int) < (is.length : Int) := by omega
      clear hxu hcy hry hOX hp0
      go_upto_region 15 with (first | (refine wpList_load_agg rfl _ _ rfl p (o + q * 5) (by rfl) [.int .i64 kx, .int .i64 nx, .string sx, .slice b1 m1 r1, .slice b2 m2 r2] (fun j v hj => by rw [Nat.add_assoc]; exact hcell j v hj) _ Tryd.underlying25 rfl HINF.out ?_) | (refine wpList_store_row rfl _ _ _ rfl X.heap.size #[.int .i64 kx, .int .i64 nx, .string sx, .slice b1 m1 r1, .slice b2 m2 r2] rfl rfl _ _ (RH.new _ _ _) HINF.out rfl HONE.out ?_))
      refine wp_stored fun Y hbY hRf => ?_
      have HBX : Hid (X.heap.size ≠ b) := Lib.hid (fun e => by have := isb_lt HI1.out; omega)
      have HI2 := Lib.hid (IsB.ext HI1.out hbY)
      have HB2 := Lib.hid (HB1.out.trans (hbY.mono (Nat.le_trans HBW.out HS1.out)))
      have HK2 := Lib.hid (HK1.out.trans (BK.below (b := b) hbY))
      have HS2 := Lib.hid (Nat.le_trans HS1.out hbY.size)
      have HRF := Lib.hid hRf
      generalize X.heap.size = fb at *
      clear hbY hRf hcell HINF HONE HI1 HB1 HK1 HS1
      by_cases hq0 : q = 0
      · have HT : Hid (commaL ((wrL is).take (q + 1)) = commaL ((wrL is).take q) ++ wrV x) := Lib.hid (by
          have h9 := HXU.out
          rw [hq0] at h9 ⊢
          rw [comma_first h9, List.take_zero]; rfl)
        have hqb : ¬ (0 : Int) < (q : Int) := by omega
        clear hq0
        have HI3 := HI2
        have HB3 := HB2
        have HK3 := HK2
        have HS3 := HS2
        have HR3 := HRF
        clear HI2 HB2 HK2 HS2 HRF
        generalize Y = Y2 at *
        obtain ⟨f0, f1, f2, f3, f4⟩ := va5 HR3.out
        go_wp2_with fail
        refine (HSX.out B b (l ++ 91 :: commaL ((wrL is).take q)) _ Y2 (below_on HOX.out HB3.out HS3.out) HI3.out (by
          have h1 := HLB.out (q + 1)
          rw [HT.out] at h1
          simp only [List.length_append, List.length_cons] at h1 ⊢
          omega) (Nat.le_trans HBW.out HS3.out) (fun X9 h9 => HTB.out X9 (HB3.out.trans h9)) HCX.out).mono ?_
        rintro e w5 ⟨rfl, h3, hb3, hk3, hs3⟩
        have HI5 : Hid (IsB B b (l ++ 91 :: commaL ((wrL is).take (q + 1))) w5) := Lib.hid (by rw [HT.out]; simpa using h3)
        have HB5 := Lib.hid (HB3.out.trans hb3)
        have HK5 := Lib.hid (HK3.out.trans hk3)
        have HS5 := Lib.hid (Nat.le_trans HS3.out hs3)
        clear h3 hb3 hk3 hs3
        go_wp2_with fail
        go_roundw
        case rel => exact ⟨q + 1, by omega, by go_num, HI5, HB5, HK5, HS5⟩
        case measure => simp [intOf]; omega
      · have HT : Hid (commaL ((wrL is).take (q + 1)) = (commaL ((wrL is).take q) ++ [44]) ++ wrV x) := Lib.hid (by
          rw [comma_take HXU.out (by omega)]; simp)
        have hqb : (0 : Int) < (q : Int) := by omega
        go_wp2_with fail
        refine (wbyte B b _ 44 Y HI2.out (by have := HLB.out q; rw [List.length_append, List.length_cons]; omega) (Nat.le_trans HBW.out HS2.out)).mono ?_
        rintro e Y2 ⟨rfl, h3, hb3, hk3, hs3⟩
        have HI3 := Lib.hid h3
        have HB3 := Lib.hid (HB2.out.trans hb3)
        have HK3 := Lib.hid (HK2.out.trans hk3)
        have HS3 := Lib.hid (Nat.le_trans HS2.out hs3)
        have HR3 := Lib.hid (hk3.rh HRF.out HBX.out (by decide))
        clear h3 hb3 hk3 hs3 HI2 HB2 HK2 HS2 HRF hq0
        obtain ⟨f0, f1, f2, f3, f4⟩ := va5 HR3.out
        go_wp2_with fail
        refine (HSX.out B b ((l ++ 91 :: commaL ((wrL is).take q)) ++ [44]) _ Y2 (below_on HOX.out HB3.out HS3.out) HI3.out (by
          have h1 := HLB.out (q + 1)
          rw [HT.out] at h1
          simp only [List.length_append, List.length_cons, List.length_nil] at h1 ⊢
          omega) (Nat.le_trans HBW.out HS3.out) (fun X9 h9 => HTB.out X9 (HB3.out.trans h9)) HCX.out).mono ?_
        rintro e w5 ⟨rfl, h3, hb3, hk3, hs3⟩
        have HI5 : Hid (IsB B b (l ++ 91 :: commaL ((wrL is).take (q + 1))) w5) := Lib.hid (by rw [HT.out]; simpa using h3)
        have HB5 := Lib.hid (HB3.out.trans hb3)
        have HK5 := Lib.hid (HK3.out.trans hk3)
        have HS5 := Lib.hid (Nat.le_trans HS3.out hs3)
        clear h3 hb3 hk3 hs3
        go_wp2_with fail
        go_roundw
        case rel => exact ⟨q + 1, by omega, by go_num, HI5, HB5, HK5, HS5⟩
        case measure => simp [intOf]; omega
    · obtain rfl : q = is.length := by omega
      have HT : Hid ((l ++ 91 :: commaL ((wrL is).take is.length)) ++ [93] = l ++ wrV (.mk 4 n s is fs)) := Lib.hid (by
        rw [HW.out, ← HWL.out, List.take_length]; simp)
      go_wp2_with fail
      refine (wbyte B b _ 93 X HI1.out (by have := HLB.out is.length; rw [List.length_append, List.length_cons]; omega) (Nat.le_trans HBW.out HS1.out)).mono ?_
      rintro e w3 ⟨rfl, h3, hb3, hk3, hs3⟩
      rw [HT.out] at h3
      have HF : Hid (WrPost B b l (wrV (.mk 4 n s is fs)) w (.returned (.tuple #[])) w3) := Lib.hid ⟨rfl, h3, HB1.out.trans hb3, HK1.out.trans hk3, Nat.le_trans HS1.out hs3⟩
      clear h3 hb3 hk3 hs3
      go_wp2_with fail
      go_end0
      exact HF.out
end Fd
end Go.Proofs.YtkjgifhklajifaaDoor
