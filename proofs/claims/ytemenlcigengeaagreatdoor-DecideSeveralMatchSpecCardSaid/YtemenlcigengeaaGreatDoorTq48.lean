/- Whole, Plus, Times, Minus, Over, Less of the references: on texts. Printed by gen_rm.py. Plain: how long the numbers of a calculation can be. No program stands in it. Whole, Plus, Times, Minus, Over, Less of the references: on numbers that are short enough. Several new blocks at once, each of which may be written. No program stands in it. readPart, checkMany of package decide; isEvidence, howMany, checkAll, checkMany of the reference. Printed by gen_sev.py. -/
import Derived.Test.YtemenlcigengeaaGreatDoorTq35
import Derived.Test.YtemenlcigengeaaGreatDoorTq47
import Derived.Test.YtemenlcigengeaaGreatDoorTq34
import Derived.Test.YtemenlcigengeaaGreatDoorTq46
import Derived.Test.YtemenlcigengeaaGreatDoorTq16
import Derived.Test.YtemenlcigengeaaGreatDoorTq45
import Derived.Test.YtemenlcigengeaaGreatDoorProg
import Derived.Test.YtemenlcigengeaaGreatDoorTq00
import Derived.Test.YtemenlcigengeaaGreatDoorTq40
import Derived.Test.YtemenlcigengeaaGreatDoorTq17
import Derived.Test.YtemenlcigengeaaGreatDoorTq05
import Derived.Test.YtemenlcigengeaaGreatDoorTq06
import Derived.Test.YtemenlcigengeaaGreatDoorTq03
import Derived.Test.YtemenlcigengeaaGreatDoorTq07
import Derived.Test.YtemenlcigengeaaGreatDoorTq08
import Derived.Test.YtemenlcigengeaaGreatDoorTq18
import Derived.Test.YtemenlcigengeaaGreatDoorTq19
import Derived.Test.YtemenlcigengeaaGreatDoorTq20
import Derived.Test.YtemenlcigengeaaGreatDoorTq32
import Derived.Test.YtemenlcigengeaaGreatDoorTq41
import Derived.Test.YtemenlcigengeaaGreatDoorTq44
import Derived.Test.YtemenlcigengeaaGreatDoorTq36
import Derived.Test.YtemenlcigengeaaGreatDoorTq42
import Derived.Test.YtemenlcigengeaaGreatDoorTq21
import Derived.Test.YtemenlcigengeaaGreatDoorTq37
import Derived.Test.YtemenlcigengeaaGreatDoorTq31
import Derived.Test.YtemenlcigengeaaGreatDoorTq24
import Derived.Test.YtemenlcigengeaaGreatDoorTq23
import Derived.Test.YtemenlcigengeaaGreatDoorTq25
import Derived.Test.YtemenlcigengeaaGreatDoorTq26
import Derived.Test.YtemenlcigengeaaGreatDoorTq27
import Derived.Test.YtemenlcigengeaaGreatDoorTq28
import Derived.Test.YtemenlcigengeaaGreatDoorTq29
import Derived.Test.YtemenlcigengeaaGreatDoorShelf
namespace Go.Proofs.YtemenlcigengeaaGreatDoor
open Go.RowKit
namespace Nt
open _root_.Go.Proofs.YtemenlcigengeaaGreatDoor.Nm (rF rQ sgn outN outD outF AnsPost bF opN opD opF iN iD iF quoN quoD quoF ordV OrdPost)
set_option maxRecDepth 100000 in
set_option maxHeartbeats 8000000 in
theorem mPlus_at (n1 d1 n2 d2 : ByteArray) (h1 : n1.size ≤ maxLen) (h2 : d1.size ≤ maxLen) (h3 : n2.size ≤ maxLen) (h4 : d2.size ≤ maxLen) (w : World) (ht : Tab w) : Calls Tryz.prog 49 #[.agg #[.string n1, .string d1], .agg #[.string n2, .string d2]] w (RPost w (opN (· + ·) n1 d1 n2 d2) (opD (· + ·) n1 d1 n2 d2)) := by
  obtain ⟨s, hs⟩ : ∃ s, opN (· + ·) n1 d1 n2 d2 = s := ⟨_, rfl⟩
  obtain ⟨t, htt⟩ : ∃ t, opD (· + ·) n1 d1 n2 d2 = t := ⟨_, rfl⟩
  have HST := Lib.hid (And.intro hs htt)
  rw [hs, htt]
  clear hs htt
  go_enter Tryz.func49, Tryz.ntmps49
  go_upto_region 1 with (fail)
  refine wp_box3r fun W hsz hbW hA hB hC hF => ?_
  have HT := Lib.hid (ht.ext hbW)
  clear hsz ht
  have a0 : W.cell? ⟨w.heap.size, 0, none⟩ = some (.string n1) := hA.2 0
  have a1 : W.cell? ⟨w.heap.size, 1, none⟩ = some (.string d1) := hA.2 1
  have a2 : W.cell? ⟨w.heap.size + 1, 0, none⟩ = some (.string n2) := hB.2 0
  have a3 : W.cell? ⟨w.heap.size + 1, 1, none⟩ = some (.string d2) := hB.2 1
  have HX := Lib.hid (And.intro hC (And.intro hF hbW))
  clear hA hB hC hF hbW
  go_wp2_with fail
  refine (refSum_at n1 d1 n2 d2 h1 h2 h3 h4 W HT.out).mono ?_
  rintro e w1 ⟨rfl, hb1⟩
  rw [HST.out.1, HST.out.2]
  have HX1 := Lib.hid (And.intro (HX.out.1.ext hb1) (And.intro (HX.out.2.1.ext HX.out.1 hb1) (ext_trans HX.out.2.2 hb1)))
  clear a0 a1 a2 a3 HX HT hb1
  go_upto_region 2 with (fail)
  refine wp_box1 fun w2 hsz2 hb2 hR => ?_
  have hC2 := HX1.out.1.ext hb2
  have hF2 := HX1.out.2.1.ext HX1.out.1 hb2
  have hbw2 := ext_trans HX1.out.2.2 hb2
  clear hsz2 HX1 hb2
  generalize w1.heap.size = br at *
  have x0 : w2.cell? ⟨br, 0, none⟩ = some (.string s) := hR.2 0
  have x1 : w2.cell? ⟨br, 1, none⟩ = some (.string t) := hR.2 1
  have r0 : w2.cell? ⟨w.heap.size + 2, 0, none⟩ = some (.string ⟨#[]⟩) := hC2.2 0
  have r1 : w2.cell? ⟨w.heap.size + 2, 1, none⟩ = some (.string ⟨#[]⟩) := hC2.2 1
  have g0 := hF2 0
  have g1 := hF2 1
  have HR := Lib.hid (res2s (.string s) (.string t) hC2 hbw2 (by omega))
  obtain ⟨hbF, z0, z1⟩ := id HR.out
  clear hC2 hF2 hbw2 hR hbF
  go_wp2
  exact bodyPost_ret (v := .agg #[.string s, .string t]) (by simp [results, Tryz.results49, go_sem, z0, z1]) rfl ⟨rfl, HR.out.1⟩
set_option maxRecDepth 100000 in
set_option maxHeartbeats 8000000 in
theorem mTimes_at (n1 d1 n2 d2 : ByteArray) (h1 : n1.size ≤ maxLen) (h2 : d1.size ≤ maxLen) (h3 : n2.size ≤ maxLen) (h4 : d2.size ≤ maxLen) (w : World) (ht : Tab w) : Calls Tryz.prog 50 #[.agg #[.string n1, .string d1], .agg #[.string n2, .string d2]] w (RPost w (opN (· * ·) n1 d1 n2 d2) (opD (· * ·) n1 d1 n2 d2)) := by
  obtain ⟨s, hs⟩ : ∃ s, opN (· * ·) n1 d1 n2 d2 = s := ⟨_, rfl⟩
  obtain ⟨t, htt⟩ : ∃ t, opD (· * ·) n1 d1 n2 d2 = t := ⟨_, rfl⟩
  have HST := Lib.hid (And.intro hs htt)
  rw [hs, htt]
  clear hs htt
  go_enter Tryz.func50, Tryz.ntmps50
  go_upto_region 1 with (fail)
  refine wp_box3r fun W hsz hbW hA hB hC hF => ?_
  have HT := Lib.hid (ht.ext hbW)
  clear hsz ht
  have a0 : W.cell? ⟨w.heap.size, 0, none⟩ = some (.string n1) := hA.2 0
  have a1 : W.cell? ⟨w.heap.size, 1, none⟩ = some (.string d1) := hA.2 1
  have a2 : W.cell? ⟨w.heap.size + 1, 0, none⟩ = some (.string n2) := hB.2 0
  have a3 : W.cell? ⟨w.heap.size + 1, 1, none⟩ = some (.string d2) := hB.2 1
  have HX := Lib.hid (And.intro hC (And.intro hF hbW))
  clear hA hB hC hF hbW
  go_wp2_with fail
  refine (refProduct_at n1 d1 n2 d2 h1 h2 h3 h4 W HT.out).mono ?_
  rintro e w1 ⟨rfl, hb1⟩
  rw [HST.out.1, HST.out.2]
  have HX1 := Lib.hid (And.intro (HX.out.1.ext hb1) (And.intro (HX.out.2.1.ext HX.out.1 hb1) (ext_trans HX.out.2.2 hb1)))
  clear a0 a1 a2 a3 HX HT hb1
  go_upto_region 2 with (fail)
  refine wp_box1 fun w2 hsz2 hb2 hR => ?_
  have hC2 := HX1.out.1.ext hb2
  have hF2 := HX1.out.2.1.ext HX1.out.1 hb2
  have hbw2 := ext_trans HX1.out.2.2 hb2
  clear hsz2 HX1 hb2
  generalize w1.heap.size = br at *
  have x0 : w2.cell? ⟨br, 0, none⟩ = some (.string s) := hR.2 0
  have x1 : w2.cell? ⟨br, 1, none⟩ = some (.string t) := hR.2 1
  have r0 : w2.cell? ⟨w.heap.size + 2, 0, none⟩ = some (.string ⟨#[]⟩) := hC2.2 0
  have r1 : w2.cell? ⟨w.heap.size + 2, 1, none⟩ = some (.string ⟨#[]⟩) := hC2.2 1
  have g0 := hF2 0
  have g1 := hF2 1
  have HR := Lib.hid (res2s (.string s) (.string t) hC2 hbw2 (by omega))
  obtain ⟨hbF, z0, z1⟩ := id HR.out
  clear hC2 hF2 hbw2 hR hbF
  go_wp2
  exact bodyPost_ret (v := .agg #[.string s, .string t]) (by simp [results, Tryz.results50, go_sem, z0, z1]) rfl ⟨rfl, HR.out.1⟩
set_option maxRecDepth 100000 in
set_option maxHeartbeats 8000000 in
theorem mOver_at (n1 d1 n2 d2 : ByteArray) (h1 : n1.size ≤ maxLen) (h2 : d1.size ≤ maxLen) (h3 : n2.size ≤ maxLen) (h4 : d2.size ≤ maxLen) (h5 : (iN n2 d2).size ≤ maxLen) (h6 : (iD n2 d2).size ≤ maxLen) (w : World) (ht : Tab w) : Calls Tryz.prog 51 #[.agg #[.string n1, .string d1], .agg #[.string n2, .string d2]] w (RPost w (opN (· * ·) n1 d1 (iN n2 d2) (iD n2 d2)) (opD (· * ·) n1 d1 (iN n2 d2) (iD n2 d2))) := by
  have HI := Lib.hid (fun W (hT : Tab W) => refInverse_at n2 d2 h3 h4 W hT)
  generalize iN n2 d2 = p at *
  generalize iD n2 d2 = q at *
  obtain ⟨s, hs⟩ : ∃ s, opN (· * ·) n1 d1 p q = s := ⟨_, rfl⟩
  obtain ⟨t, htt⟩ : ∃ t, opD (· * ·) n1 d1 p q = t := ⟨_, rfl⟩
  have HST := Lib.hid (And.intro hs htt)
  rw [hs, htt]
  clear hs htt
  go_enter Tryz.func51, Tryz.ntmps51
  go_upto_region 1 with (fail)
  refine wp_box3r fun W hsz hbW hA hB hC hF => ?_
  have HT := Lib.hid (ht.ext hbW)
  clear hsz ht
  have a2 : W.cell? ⟨w.heap.size + 1, 0, none⟩ = some (.string n2) := hB.2 0
  have a3 : W.cell? ⟨w.heap.size + 1, 1, none⟩ = some (.string d2) := hB.2 1
  have HX := Lib.hid (And.intro hC (And.intro hF (And.intro hA hbW)))
  clear hA hB hC hF hbW
  go_wp2_with fail
  refine (HI.out W HT.out).mono ?_
  rintro e w1 ⟨rfl, hb1⟩
  have HX1 := Lib.hid (And.intro (HX.out.1.ext hb1) (And.intro (HX.out.2.1.ext HX.out.1 hb1) (And.intro (HX.out.2.2.1.ext hb1) (ext_trans HX.out.2.2.2 hb1))))
  have HT1 := Lib.hid (HT.out.ext hb1)
  clear a2 a3 HX HT hb1
  go_upto_region 2 with (fail)
  refine wp_box1 fun w2 hsz2 hb2 hR => ?_
  have hA2 := HX1.out.2.2.1.ext hb2
  have HX2 := Lib.hid (And.intro (HX1.out.1.ext hb2) (And.intro (HX1.out.2.1.ext HX1.out.1 hb2) (ext_trans HX1.out.2.2.2 hb2)))
  have HT2 := Lib.hid (HT1.out.ext hb2)
  clear hsz2 HX1 hb2 HT1
  generalize w1.heap.size = br at *
  have x0 : w2.cell? ⟨br, 0, none⟩ = some (.string p) := hR.2 0
  have x1 : w2.cell? ⟨br, 1, none⟩ = some (.string q) := hR.2 1
  have a0 : w2.cell? ⟨w.heap.size, 0, none⟩ = some (.string n1) := hA2.2 0
  have a1 : w2.cell? ⟨w.heap.size, 1, none⟩ = some (.string d1) := hA2.2 1
  clear hA2 hR
  go_wp2_with fail
  refine (mTimes_at n1 d1 p q h1 h2 h5 h6 w2 HT2.out).mono ?_
  rintro e w3 ⟨rfl, hb3⟩
  rw [HST.out.1, HST.out.2]
  have hC2 := HX2.out.1.ext hb3
  have hF2 := HX2.out.2.1.ext HX2.out.1 hb3
  have hbw2 := ext_trans HX2.out.2.2 hb3
  have r0 : w3.cell? ⟨w.heap.size + 2, 0, none⟩ = some (.string ⟨#[]⟩) := hC2.2 0
  have r1 : w3.cell? ⟨w.heap.size + 2, 1, none⟩ = some (.string ⟨#[]⟩) := hC2.2 1
  have g0 := hF2 0
  have g1 := hF2 1
  have HR := Lib.hid (res2s (.string s) (.string t) hC2 hbw2 (by omega))
  obtain ⟨hbF, z0, z1⟩ := id HR.out
  clear hC2 hF2 hbw2 hbF x0 x1 a0 a1 HX2
  go_wp2
  exact bodyPost_ret (v := .agg #[.string s, .string t]) (by simp [results, Tryz.results51, go_sem, z0, z1]) rfl ⟨rfl, HR.out.1⟩
end Nt
end Go.Proofs.YtemenlcigengeaaGreatDoor
namespace Go.Proofs.YtemenlcigengeaaGreatDoor
namespace Nm
theorem Ln.div {a b a' b' : Nat} {p q : Rat} (h : Ln a b p) (k : Ln a' b' q) (h0 : q ≠ 0) : Ln (a + b') (b + a') (p / q) := by
  rw [Rat.div_def]; exact h.mul (k.inv h0)
end Nm
end Go.Proofs.YtemenlcigengeaaGreatDoor
namespace Go.Proofs.YtemenlcigengeaaGreatDoor
open Go.RowKit
namespace Nm
theorem op_show {op : Rat → Rat → Rat} {p q : Rat} (hp : Fits p) (hq : Fits q) (hs : Fits (op p q)) : opN op (showN p) (showD p) (showN q) (showD q) = showN (op p q) ∧ opD op (showN p) (showD p) (showN q) (showD q) = showD (op p q) := by
  unfold opN opD
  rw [if_pos (bF_show hp hq), if_pos (bF_show hp hq), (back hp).2, (back hq).2, (out_fits hs).1, (out_fits hs).2.1]; exact ⟨rfl, rfl⟩
theorem inv_show {q : Rat} (hq : Fits q) (h0 : q ≠ 0) : iN (showN q) (showD q) = showN q⁻¹ ∧ iD (showN q) (showD q) = showD q⁻¹ ∧ Fits q⁻¹ := by
  have hn : q.num ≠ 0 := fun e => h0 (Rat.num_eq_zero.1 e)
  have hi : Fits q⁻¹ := by
    obtain ⟨f1, f2, _, _⟩ := inv_facts hn
    unfold Fits
    rw [f1, f2]; exact ⟨hq.2, hq.1⟩
  unfold iN iD
  rw [(back hq).1, (back hq).2]
  simp only [ne_eq, not_true_eq_false, if_false, hn]
  exact ⟨(out_fits hi).1, (out_fits hi).2.1, hi⟩
end Nm
namespace Nt
open _root_.Go.Proofs.YtemenlcigengeaaGreatDoor.Nm (showN showD Fits show_size op_show ord_show inv_show quo_one fits_int cmpQ cmpQ_neg i64_ten)
theorem mPlusQ (p q : Rat) (hp : Fits p) (hq : Fits q) (hs : Fits (p + q)) (w : World) (ht : Tab w) : Calls Tryz.prog 49 #[rtV p, rtV q] w (RtP w (p + q)) := by
  have h := mPlus_at _ _ _ _ (show_size hp).1 (show_size hp).2 (show_size hq).1 (show_size hq).2 w ht
  rw [(op_show (op := (· + ·)) hp hq hs).1, (op_show (op := (· + ·)) hp hq hs).2] at h
  exact h
theorem mTimesQ (p q : Rat) (hp : Fits p) (hq : Fits q) (hs : Fits (p * q)) (w : World) (ht : Tab w) : Calls Tryz.prog 50 #[rtV p, rtV q] w (RtP w (p * q)) := by
  have h := mTimes_at _ _ _ _ (show_size hp).1 (show_size hp).2 (show_size hq).1 (show_size hq).2 w ht
  rw [(op_show (op := (· * ·)) hp hq hs).1, (op_show (op := (· * ·)) hp hq hs).2] at h
  exact h
theorem mOverQ (p q : Rat) (hp : Fits p) (hq : Fits q) (h0 : q ≠ 0) (hs : Fits (p / q)) (w : World) (ht : Tab w) : Calls Tryz.prog 51 #[rtV p, rtV q] w (RtP w (p / q)) := by
  obtain ⟨e1, e2, hi⟩ := inv_show hq h0
  rw [Rat.div_def] at hs ⊢
  have h := mOver_at (showN p) (showD p) (showN q) (showD q) (show_size hp).1 (show_size hp).2 (show_size hq).1 (show_size hq).2 (by rw [e1]; exact (show_size hi).1) (by rw [e2]; exact (show_size hi).2) w ht
  rw [e1, e2, (op_show (op := (· * ·)) hp hi hs).1, (op_show (op := (· * ·)) hp hi hs).2] at h
  exact h
end Nt
end Go.Proofs.YtemenlcigengeaaGreatDoor
namespace Go.Proofs.YtemenlcigengeaaGreatDoor
open Go.RowKit
theorem wp_box2f {P : Program} {c : Code} {Q : Exit → Act → World → Prop} {a : Act} {w : World} {A B : Array Value} {t u : TypeId}
    (h : ∀ W, W.heap.size = w.heap.size + 2 → Below w.heap.size w W → Box W w.heap.size A → Fre W w.heap.size → Box W (w.heap.size + 1) B → Fre W (w.heap.size + 1) → c.wp P Q a W) : c.wp P Q a ((w.alloc (.cells A t)).alloc (.cells B u)) := by
  have b1 := Box.new w A t
  have f1 := Fre.new w A t
  have hb : Below (w.alloc (.cells A t)).heap.size (w.alloc (.cells A t)) ((w.alloc (.cells A t)).alloc (.cells B u)) := ext_alloc _ _
  refine h _ (by simp) (by go_grown) (b1.ext hb) (f1.ext b1 hb) ?_ ?_
  · have := Box.new (w.alloc (.cells A t)) B u
    simpa using this
  · have := Fre.new (w.alloc (.cells A t)) B u
    simpa using this
end Go.Proofs.YtemenlcigengeaaGreatDoor
namespace Go.Proofs.YtemenlcigengeaaGreatDoor
open Go.RowKit
namespace Nm
end Nm
namespace Nt
open _root_.Go.Proofs.YtemenlcigengeaaGreatDoor.Nm (rF rQ showN showD Fits partF FPost RT rtL rtOk longB mF mF_ok aF aF_step allF missF tail_none)
set_option maxRecDepth 100000 in
set_option maxHeartbeats 8000000 in
theorem isEvidence_at (n d : ByteArray) (hn : n.size ≤ maxLen) (hd : d.size ≤ maxLen) (w : World) (ht : Tab w) : Calls Tryz.prog 48 #[.agg #[.string n, .string d]] w (FPost w (partF n d)) := by
  go_enter Tryz.func48, Tryz.ntmps48
  have HT0 := Lib.hid ht
  clear ht
  go_upto_region 1 with (fail)
  refine wp_box1 fun w1' hsz hbW hA0 => ?_
  clear hsz
  have HB_r := Lib.hid hA0
  have HW := Lib.hid hbW
  clear hbW hA0
  have c_r_0 : w1'.cell? ⟨w.heap.size, 0, none⟩ = some (.string n) := HB_r.out.2 0
  have c_r_1 : w1'.cell? ⟨w.heap.size, 1, none⟩ = some (.string d) := HB_r.out.2 1
  go_wp2_with fail
  refine (refCheck_at n d hn hd w1' (HT0.out.ext HW.out)).mono ?_
  rintro e w2' ⟨rfl, hbz⟩
  replace HB_r := Lib.hid (HB_r.out.ext hbz)
  replace HW := Lib.hid (ext_trans HW.out hbz)
  clear c_r_0 c_r_1
  clear hbz
  by_cases hz : rF n d = 0
  · have hne : (rF n d != 0) = false := by simp [hz]
    have HP0 : Hid (partF n d = if (rQ n d).num < 0 then 1 else if longB n d = true then 2 else 0) := Lib.hid (by unfold partF; rw [if_neg (fun h => h hz)])
    obtain ⟨q, hq, hrq, rfl, rfl⟩ := show_parts hz
    rw [hrq] at HP0
    have HF := Lib.hid hq
    clear hz hq hrq
    generalize partF (showN q) (showD q) = pf at *
    go_upto_region 4 with (fail)
    have c_r_0 : w2'.cell? ⟨w.heap.size, 0, none⟩ = some (.string (showN q)) := HB_r.out.2 0
    have c_r_1 : w2'.cell? ⟨w.heap.size, 1, none⟩ = some (.string (showD q)) := HB_r.out.2 1
    by_cases hneg : q.num < 0
    · have HP : Hid (pf = 1) := Lib.hid (by rw [HP0.out, if_pos hneg])
      have HL : Hid (decide (q < 0) = true) := Lib.hid (decide_eq_true (Nm.rat_neg.1 hneg))
      clear hneg
      refine Grow.wp_region_grow 3 [TP.eq (rtV q), TP.eq (rtV 0), TP.eq (.bool true)] [[], [], [0, 1]] (by kernel_rfl) (by kernel_rfl) ⟨?o0ietrue, ?o1ietrue, ?o2ietrue, trivial⟩ ?_
      case o0ietrue =>
        intro w' hb
        have c_r_0' : w'.cell? ⟨w.heap.size, 0, none⟩ = some (.string (showN q)) := (hb.cell (World.block_lt_of_cell? _ _ c_r_0)).trans c_r_0
        have c_r_1' : w'.cell? ⟨w.heap.size, 1, none⟩ = some (.string (showD q)) := (hb.cell (World.block_lt_of_cell? _ _ c_r_1)).trans c_r_1
        show wpList _ _ _ _ _ _
        go_wp2
        exact ⟨rfl, Below.refl _ _, rfl⟩
      case o1ietrue =>
        intro w' hb
        show wpList _ _ _ _ _ _
        go_wp2_with fail
        refine (whole0 w' (HT0.out.ext (ext_trans HW.out hb))).mono ?_
        rintro e wz ⟨rfl, hbz⟩
        go_wp2
        exact ⟨rfl, hbz, rfl⟩
      case o2ietrue =>
        intro w' hb v1 hv1 v2 hv2
        obtain rfl : v1 = _ := hv1
        obtain rfl : v2 = _ := hv2
        show wpList _ _ _ _ _ _
        simp only [Grow.dstOf, List.getElem?_toArray, List.getElem?_cons_succ, List.getElem?_cons_zero, Option.bind_some, Act.put, List.setIfInBounds_toArray, List.set_cons_succ, List.set_cons_zero]
        go_wp2_with fail
        refine (less_is q 0 true HL.out HF.out fits0 w' (HT0.out.ext (ext_trans HW.out hb))).mono ?_
        rintro e wz ⟨rfl, hbz⟩
        go_wp2
        exact ⟨rfl, hbz, rfl⟩
      intro w3' hbz u0 hu0 u1 hu1 u2 hu2
      obtain rfl : u0 = _ := hu0
      obtain rfl : u1 = _ := hu1
      obtain rfl : u2 = _ := hu2
      replace HB_r := Lib.hid (HB_r.out.ext hbz)
      replace HW := Lib.hid (ext_trans HW.out hbz)
      clear c_r_0 c_r_1
      clear hbz
      refine tail_none (P := Tryz.prog) (ops := #[]) ?_
      simp only [Act.put, List.setIfInBounds_toArray, List.set_cons_succ, List.set_cons_zero]
      go_wp2
      exact bodyPost_ret (v := .int .i64 (1)) (by simp [results, Tryz.results48, go_sem]) rfl ⟨by rw [HP.out], HW.out⟩
    · have HP1 : Hid (pf = if longB (showN q) (showD q) = true then 2 else 0) := Lib.hid (by rw [HP0.out, if_neg hneg])
      have HL : Hid (decide (q < 0) = false) := Lib.hid (decide_eq_false (fun h => hneg (Nm.rat_neg.2 h)))
      clear hneg
      refine Grow.wp_region_grow 3 [TP.eq (rtV q), TP.eq (rtV 0), TP.eq (.bool false)] [[], [], [0, 1]] (by kernel_rfl) (by kernel_rfl) ⟨?o0iefalse, ?o1iefalse, ?o2iefalse, trivial⟩ ?_
      case o0iefalse =>
        intro w' hb
        have c_r_0' : w'.cell? ⟨w.heap.size, 0, none⟩ = some (.string (showN q)) := (hb.cell (World.block_lt_of_cell? _ _ c_r_0)).trans c_r_0
        have c_r_1' : w'.cell? ⟨w.heap.size, 1, none⟩ = some (.string (showD q)) := (hb.cell (World.block_lt_of_cell? _ _ c_r_1)).trans c_r_1
        show wpList _ _ _ _ _ _
        go_wp2
        exact ⟨rfl, Below.refl _ _, rfl⟩
      case o1iefalse =>
        intro w' hb
        show wpList _ _ _ _ _ _
        go_wp2_with fail
        refine (whole0 w' (HT0.out.ext (ext_trans HW.out hb))).mono ?_
        rintro e wz ⟨rfl, hbz⟩
        go_wp2
        exact ⟨rfl, hbz, rfl⟩
      case o2iefalse =>
        intro w' hb v1 hv1 v2 hv2
        obtain rfl : v1 = _ := hv1
        obtain rfl : v2 = _ := hv2
        show wpList _ _ _ _ _ _
        simp only [Grow.dstOf, List.getElem?_toArray, List.getElem?_cons_succ, List.getElem?_cons_zero, Option.bind_some, Act.put, List.setIfInBounds_toArray, List.set_cons_succ, List.set_cons_zero]
        go_wp2_with fail
        refine (less_is q 0 false HL.out HF.out fits0 w' (HT0.out.ext (ext_trans HW.out hb))).mono ?_
        rintro e wz ⟨rfl, hbz⟩
        go_wp2
        exact ⟨rfl, hbz, rfl⟩
      intro w3' hbz u0 hu0 u1 hu1 u2 hu2
      obtain rfl : u0 = _ := hu0
      obtain rfl : u1 = _ := hu1
      obtain rfl : u2 = _ := hu2
      replace HB_r := Lib.hid (HB_r.out.ext hbz)
      replace HW := Lib.hid (ext_trans HW.out hbz)
      clear c_r_0 c_r_1
      clear hbz
      refine tail_none (P := Tryz.prog) (ops := #[]) ?_
      simp only [Act.put, List.setIfInBounds_toArray, List.set_cons_succ, List.set_cons_zero]
      have c_r_0 : w3'.cell? ⟨w.heap.size, 0, none⟩ = some (.string (showN q)) := HB_r.out.2 0
      have c_r_1 : w3'.cell? ⟨w.heap.size, 1, none⟩ = some (.string (showD q)) := HB_r.out.2 1
      go_wp2_with fail
      refine (isShort_at (showN q) (showD q) hn hd w3').mono ?_
      rintro e w4' ⟨rfl, hbz⟩
      replace HB_r := Lib.hid (HB_r.out.ext hbz)
      replace HW := Lib.hid (ext_trans HW.out hbz)
      clear c_r_0 c_r_1
      clear hbz
      by_cases hl : longB (showN q) (showD q) = true
      · have HP : Hid (pf = 2) := Lib.hid (by rw [HP1.out, if_pos hl])
        rw [hl]
        clear hl
        go_wp2
        exact bodyPost_ret (v := .int .i64 (2)) (by simp [results, Tryz.results48, go_sem]) rfl ⟨by rw [HP.out], HW.out⟩
      · have HP : Hid (pf = 0) := Lib.hid (by rw [HP1.out, if_neg hl])
        have hl' : longB (showN q) (showD q) = false := by simpa using hl
        rw [hl']
        clear hl hl'
        go_wp2
        exact bodyPost_ret (v := .int .i64 (0)) (by simp [results, Tryz.results48, go_sem]) rfl ⟨by rw [HP.out], HW.out⟩
  · have HP : Hid (partF n d = rF n d) := Lib.hid (by unfold partF; rw [if_pos hz])
    have hne : (rF n d != 0) = true := by simp [hz]
    clear hz
    go_wp2
    exact bodyPost_ret (v := .int .i64 (rF n d)) (by simp [results, Tryz.results48, go_sem]) rfl ⟨by rw [HP.out], HW.out⟩
set_option maxHeartbeats 4000000 in
theorem howMany_at (n : Nat) (w : World) : Calls Tryz.prog 47 #[.int .i64 (n : Int)] w (fun e w' => e = .returned (.int .i64 (mF n)) ∧ w = w') := by
  go_enter Tryz.func47, Tryz.ntmps47
  by_cases h1 : n = 0
  · have HP : Hid (mF n = 9) := Lib.hid (by unfold mF; rw [if_pos h1])
    have h2 : ((n : Int) == 0) = true := by rw [h1]; rfl
    clear h1
    go_wp2
    exact bodyPost_ret (v := .int .i64 9) (by simp [results, Tryz.results47, go_sem]) rfl ⟨by rw [HP.out], rfl⟩
  · have h2 : ((n : Int) == 0) = false := beq_eq_false_iff_ne.2 (by omega)
    by_cases h3 : 10 < n
    · have HP : Hid (mF n = 2) := Lib.hid (by unfold mF; rw [if_neg h1, if_pos h3])
      clear h1
      go_wp2
      exact bodyPost_ret (v := .int .i64 2) (by simp [results, Tryz.results47, go_sem]) rfl ⟨by rw [HP.out], rfl⟩
    · have HP : Hid (mF n = 0) := Lib.hid (by unfold mF; rw [if_neg h1, if_neg h3])
      clear h1
      go_wp2
      exact bodyPost_ret (v := .int .i64 0) (by simp [results, Tryz.results47, go_sem]) rfl ⟨by rw [HP.out], rfl⟩
set_option maxRecDepth 100000 in
set_option maxHeartbeats 8000000 in
theorem checkAll_at (l : List RT) (hok : ∀ r ∈ l, rtOk r) (a : Option Addr) (c : Nat) (w : World) (hs : Sl w (.slice a l.length c) l.length (l.flatMap rtL)) (ht : Tab w) : Calls Tryz.prog 53 #[.slice a l.length c] w (FPost w (allF l)) := by
  have HS := Lib.hid hs
  have HGS := Lib.hid hok
  clear hs hok
  go_enter Tryz.func53, Tryz.ntmps53
  have HT0 := Lib.hid ht
  clear ht
  go_wp2_with fail
  refine (howMany_at l.length w).mono ?_
  rintro e w1' ⟨rfl, hw9⟩
  have hbz : Below w.heap.size w w1' := by rw [← hw9]; exact Below.refl _ _
  clear hw9
  have HW := Lib.hid hbz
  clear hbz
  by_cases hf : mF l.length = 0
  · have hne : (mF l.length != 0) = false := by simp [hf]
    have HV : Hid (allF l = aF l) := Lib.hid (by unfold allF; rw [if_neg (fun h => h hf)])
    obtain ⟨hl1, hl10⟩ := mF_ok hf
    clear hf
    go_wp2
    go_loopw [6, 15] (fun _ i wr => ∃ k : Nat, k ≤ l.length ∧ i = .int .i64 (k : Int) ∧ Hid (aF l = aF (l.drop k)) ∧ (Below w.heap.size w wr)) (fun _ i _ => l.length - (intOf i).toNat)
    case atStart => exact ⟨0, by omega, rfl, rfl, HW.out⟩
    case round =>
      obtain ⟨k, hk, rfl, HK, q_HW⟩ := hrel
      clear HW
      have HW := Lib.hid q_HW
      clear q_HW
      generalize hX : wr = X at *
      clear hX
      by_cases hlt : k < l.length
      · have hgk := List.getElem?_eq_getElem hlt
        have hok := HGS.out _ (List.getElem_mem hlt)
        generalize l[k] = r at hgk hok
        obtain ⟨rn, rd⟩ := r
        have HST := Lib.hid (HK.out.trans (aF_step hgk))
        obtain ⟨pb, po, hp9, hcs⟩ := (HS.out.ext HW.out).elem (f := rtL) (fun _ => rfl) (by omega : 0 < 2) hgk
        have e0 := hcs 0 _ rfl
        have e1 := hcs 1 _ rfl
        rw [Nat.add_zero] at e0
        simp only at HST e0 e1
        subst hp9
        have hk0 : (0 : Int) ≤ (k : Int) := Int.natCast_nonneg _
        have hk1 : (k : Int) < (l.length : Int) := by omega
        obtain ⟨ho1, ho2⟩ := hok
        clear hcs HK hgk
        go_upto_region 7 with (fail)
        refine wp_box1 fun w2' hsz hbz hC => ?_
        clear hsz
        have le_r : w.heap.size ≤ X.heap.size := HW.out.size
        replace HW := Lib.hid (ext_trans HW.out hbz)
        clear hbz e0 e1
        have HB_r := Lib.hid hC
        clear hC
        generalize X.heap.size = b_r at *
        have c_r_0 : w2'.cell? ⟨b_r, 0, none⟩ = some (.string rn) := HB_r.out.2 0
        have c_r_1 : w2'.cell? ⟨b_r, 1, none⟩ = some (.string rd) := HB_r.out.2 1
        go_wp2_with fail
        refine (isEvidence_at rn rd ho1 ho2 w2' (HT0.out.ext HW.out)).mono ?_
        rintro e w3' ⟨rfl, hbz⟩
        replace HB_r := Lib.hid (HB_r.out.ext hbz)
        replace HW := Lib.hid (ext_trans HW.out hbz)
        clear c_r_0 c_r_1
        clear hbz
        by_cases hg : partF rn rd = 0
        · have hne2 : (partF rn rd != 0) = false := by simp [hg]
          have HN : Hid (aF l = aF (l.drop (k + 1))) := Lib.hid (HST.out.trans (if_neg (fun h => h hg)))
          clear hg HST
          go_wp2
          go_roundw
          case rel => exact ⟨k + 1, by omega, by go_num, HN, HW.out⟩
          case measure => simp [intOf]; omega
        · have hne2 : (partF rn rd != 0) = true := by simp [hg]
          replace HV : Hid (allF l = partF rn rd) := Lib.hid (HV.out.trans (HST.out.trans (if_pos hg)))
          clear hg HST
          go_wp2
          exact bodyPost_ret (v := .int .i64 (partF rn rd)) (by simp [results, Tryz.results53, go_sem]) rfl ⟨by rw [HV.out], HW.out⟩
      · replace HV : Hid (allF l = 0) := Lib.hid (by rw [HV.out, HK.out, List.drop_of_length_le (by omega)]; rfl)
        go_wp2
        exact bodyPost_ret (v := .int .i64 (0)) (by simp [results, Tryz.results53, go_sem]) rfl ⟨by rw [HV.out], HW.out⟩
  · have HV : Hid (allF l = mF l.length) := Lib.hid (by unfold allF; rw [if_pos hf])
    have hne : (mF l.length != 0) = true := by simp [hf]
    clear hf
    go_wp2
    exact bodyPost_ret (v := .int .i64 (mF l.length)) (by simp [results, Tryz.results53, go_sem]) rfl ⟨by rw [HV.out], HW.out⟩
def manyF (l : List RT) (n d : ByteArray) : Int := if allF l ≠ 0 then allF l else missF n d
set_option maxRecDepth 100000 in
set_option maxHeartbeats 8000000 in
theorem checkManyR_at (l : List RT) (hok : ∀ r ∈ l, rtOk r) (a : Option Addr) (c : Nat) (w : World) (hs : Sl w (.slice a l.length c) l.length (l.flatMap rtL)) (n d : ByteArray) (hn : n.size ≤ maxLen) (hd : d.size ≤ maxLen) (ht : Tab w) : Calls Tryz.prog 56 #[.slice a l.length c, .agg #[.string n, .string d]] w (FPost w (manyF l n d)) := by
  have HS := Lib.hid hs
  clear hs
  go_enter Tryz.func56, Tryz.ntmps56
  have HT0 := Lib.hid ht
  clear ht
  go_upto_region 1 with (fail)
  refine wp_box1 fun w1' hsz hbW hA0 => ?_
  clear hsz
  have HB_m := Lib.hid hA0
  have HW := Lib.hid hbW
  clear hbW hA0
  go_wp2_with fail
  refine (checkAll_at l hok a c w1' (HS.out.ext HW.out) (HT0.out.ext HW.out)).mono ?_
  rintro e w2' ⟨rfl, hbz⟩
  replace HB_m := Lib.hid (HB_m.out.ext hbz)
  replace HW := Lib.hid (ext_trans HW.out hbz)
  clear hbz
  by_cases hf : allF l = 0
  · have HV : Hid (manyF l n d = missF n d) := Lib.hid (by unfold manyF; rw [if_neg (fun h => h hf)])
    have hne : (allF l != 0) = false := by simp [hf]
    clear hf
    have c_m_0 : w2'.cell? ⟨w.heap.size, 0, none⟩ = some (.string n) := HB_m.out.2 0
    have c_m_1 : w2'.cell? ⟨w.heap.size, 1, none⟩ = some (.string d) := HB_m.out.2 1
    go_wp2_with fail
    refine (isMiss_at n d hn hd w2' (HT0.out.ext HW.out)).mono ?_
    rintro e w3' ⟨rfl, hbz⟩
    replace HB_m := Lib.hid (HB_m.out.ext hbz)
    replace HW := Lib.hid (ext_trans HW.out hbz)
    clear c_m_0 c_m_1
    clear hbz
    go_wp2
    exact bodyPost_ret (v := .int .i64 (missF n d)) (by simp [results, Tryz.results56, go_sem]) rfl ⟨by rw [HV.out], HW.out⟩
  · have HV : Hid (manyF l n d = allF l) := Lib.hid (by unfold manyF; rw [if_pos hf])
    have hne : (allF l != 0) = true := by simp [hf]
    clear hf
    go_wp2
    exact bodyPost_ret (v := .int .i64 (allF l)) (by simp [results, Tryz.results56, go_sem]) rfl ⟨by rw [HV.out], HW.out⟩
end Nt
end Go.Proofs.YtemenlcigengeaaGreatDoor
