/- show of package value: lists. Printed by gen_vsh.py. show of package value: objects; at every value. Printed by gen_vsh.py. Plain: how long a right value's text is at most. No program stands in it. -/
import Derived.Test.YtbhcfmdogdaodaaDoorTe24
import Derived.Test.YtbhcfmdogdaodaaDoorTe02
import Derived.Test.YtbhcfmdogdaodaaDoorTe23
namespace Go.Proofs.YtbhcfmdogdaodaaDoor
open Go.RowKit
namespace Fd
open _root_.Go.Proofs.YtbhcfmdogdaodaaDoor.Nt (RH RH.cell RH.box RH.lt RH.new RH.ext RH.fre RH.set RH.other)
open _root_.Go.Proofs.YtbhcfmdogdaodaaDoor.Rw (All2 All2.get All2.length wpList_load_agg wp_stored)
set_option maxRecDepth 100000 in
set_option maxHeartbeats 16000000 in
theorem sh_list (n : Int) (s : ByteArray) (is : List V) (fs : List F) (HS0 : ∀ x ∈ is, ShAt x) : ShAt (.mk 4 n s is fs) := by
  have HSH := Lib.hid HS0
  clear HS0
  intro B b l cs w hx hI hlen hBw hTB hck
  obtain ⟨ai, ci, af, cf, EF, rfl, i1, i2, i3, hIS0, hFS⟩ := on_open hx
  obtain ⟨EI, hIS⟩ := on_fix (k := 5) (by omega) (fun _ _ _ h => RepV.len h) hIS0
  clear hIS0
  have HI := Lib.hid hI
  have HLN := Lib.hid hlen
  have HBW := Lib.hid hBw
  have HTB := Lib.hid hTB
  have HCK := Lib.hid hck
  have HIS := Lib.hid hIS
  have HFS := Lib.hid hFS
  have HBL : Hid (b < w.heap.size) := Lib.hid (isb_lt hI)
  clear hx hI hlen hBw hTB hck hIS hFS i1 i2 i3
  go_enter Tryd.func40, Tryd.ntmps40
  go_upto_region 1 with (fail)
  refine Tx.wp_vr1 fun W hbW hR1 => ?_
  obtain ⟨a0, a1, a2, a3, a4⟩ := va5 hR1
  have HI0 := Lib.hid (IsB.ext HI.out hbW)
  have HB0 : Hid (Below B w W) := Lib.hid (hbW.mono HBW.out)
  have HK0 := Lib.hid (BK.below (b := b) hbW)
  have HS0 := Lib.hid hbW.size
  have HR1 := Lib.hid hR1
  clear hR1 hbW
  have hck := chkV_ok HCK.out
  have HCI := Lib.hid hck.2.1
  clear hck
  have hlen4 : (is.length : Int) ≤ 9223372036854775807 := by have := (fs_len HCK.out).2; change is.length ≤ 100 at this; omega
  have HW : Hid (wrV (.mk 4 n s is fs) = 91 :: (commaL (wrL is) ++ [93])) := Lib.hid (by simp [wrV])
  have HWL : Hid ((wrL is).length = is.length) := Lib.hid (by rw [wrL_map, List.length_map])
  have HLB : Hid (∀ q, (commaL ((wrL is).take q)).length + 2 + l.length ≤ 1000000000) := Lib.hid (fun q => by
    have h1 := comma_le (wrL is) q
    have h2 := HLN.out
    rw [HW.out] at h2
    simp only [List.length_cons, List.length_append, List.length_nil] at h2
    omega)
  go_wp2_with fail
  refine (wbyte B b l 91 W HI0.out (by have := HLN.out; omega) (Nat.le_trans HBW.out HS0.out)).mono ?_
  rintro e w3 ⟨rfl, h3, hb3, hk3, hs3⟩
  have HI1 : Hid (IsB B b (l ++ 91 :: commaL ((wrL is).take 0)) w3) := Lib.hid (by simpa [commaL] using h3)
  have HB1 := Lib.hid (HB0.out.trans hb3)
  have HK1 := Lib.hid (HK0.out.trans hk3)
  have HS1 := Lib.hid (Nat.le_trans HS0.out hs3)
  obtain ⟨a0, a1, a2, a3, a4⟩ := va5 (hk3.rh HR1.out (by have := HBL.out; omega) (by decide))
  clear h3 hb3 hk3 hs3 HI0 HB0 HK0 HS0
  go_wp2_with fail
  go_loopw [41] (fun i wr => ∃ q : Nat, q ≤ is.length ∧ i = .int .i64 (q : Int) ∧ Hid (IsB B b (l ++ 91 :: commaL ((wrL is).take q)) wr) ∧ Hid (Below B w wr) ∧ Hid (BK b w wr) ∧ Hid (w.heap.size ≤ wr.heap.size)) (fun i _ => is.length - (intOf i).toNat)
  case atStart => exact ⟨0, Nat.zero_le _, rfl, HI1, HB1, HK1, HS1⟩
  case round =>
    clear HI1 HB1 HK1 HS1
    obtain ⟨q, hq, rfl, HI1, HB1, HK1, HS1⟩ := hrel
    generalize hXX : wr = X at *
    clear hXX a0 a1 a2 a3 a4
    by_cases hlt : q < is.length
    · obtain ⟨x, hxu⟩ : ∃ x, is[q]? = some x := ⟨_, List.getElem?_eq_getElem hlt⟩
      obtain ⟨cy, hcy, hOX⟩ := All2.get (on_allR (On.map HIS.out (fun _ h => h.2))) hxu
      have hry := (below_on hOX HB1.out HS1.out).now
      obtain ⟨p, o, e0, hp0, hcell⟩ := sl_elem (below_on HIS.out HB1.out HS1.out).now.1 (all_len (fun _ _ => RepV.len) (below_on HIS.out HB1.out HS1.out).now.2) (by omega) hcy
      subst e0
      obtain ⟨kx, nx, sx, b1, m1, r1, b2, m2, r2, rfl⟩ := V5 hry
      have HINF := Lib.hid (v_info hry)
      have HONE := Lib.hid (all_arr (RepV.one hry))
      have HOX := Lib.hid hOX
      have HXU : Hid ((wrL is)[q]? = some (wrV x)) := Lib.hid (by rw [wrL_map, List.getElem?_map, hxu]; rfl)
      have HCX : Hid (chkV x = 0) := Lib.hid (HCI.out x (List.mem_of_getElem? hxu))
      have HSX : Hid (ShAt x) := Lib.hid (HSH.out x (List.mem_of_getElem? hxu))
      have hqi : (q : Int) < (is.length : Int) := by omega
      clear hxu hcy hry hOX hp0
      go_upto_region 15 with (first | (refine wpList_load_agg rfl _ _ rfl p (o + q * 5) (by rfl) [.int .i64 kx, .int .i64 nx, .string sx, .slice b1 m1 r1, .slice b2 m2 r2] (fun j v hj => by rw [Nat.add_assoc]; exact hcell j v hj) _ Tryd.underlying25 rfl HINF.out ?_) | (refine wpList_store_row rfl _ _ _ rfl X.heap.size #[.int .i64 kx, .int .i64 nx, .string sx, .slice b1 m1 r1, .slice b2 m2 r2] rfl rfl _ _ (RH.new _ _ _) HINF.out rfl HONE.out ?_))
      refine wp_stored fun Y hbY hRf => ?_
      have HBX : Hid (X.heap.size ≠ b) := Lib.hid (fun e => by have := isb_lt HI1.out; omega)
      have HI2 := Lib.hid (IsB.ext HI1.out hbY)
      have HB2 := Lib.hid (HB1.out.trans (hbY.mono (Nat.le_trans HBW.out HS1.out)))
      have HK2 := Lib.hid (HK1.out.trans (BK.below (b := b) hbY))
      have HS2 := Lib.hid (Nat.le_trans HS1.out hbY.size)
      have HRF := Lib.hid hRf
      generalize X.heap.size = fb at *
      clear hbY hRf hcell HINF HONE HI1 HB1 HK1 HS1
      by_cases hq0 : q = 0
      · have HT : Hid (commaL ((wrL is).take (q + 1)) = commaL ((wrL is).take q) ++ wrV x) := Lib.hid (by
          have h9 := HXU.out
          rw [hq0] at h9 ⊢
          rw [comma_first h9, List.take_zero]; rfl)
        have hqb : ¬ (0 : Int) < (q : Int) := by omega
        clear hq0
        have HI3 := HI2
        have HB3 := HB2
        have HK3 := HK2
        have HS3 := HS2
        have HR3 := HRF
        clear HI2 HB2 HK2 HS2 HRF
        generalize Y = Y2 at *
        obtain ⟨f0, f1, f2, f3, f4⟩ := va5 HR3.out
        go_wp2_with fail
        refine (HSX.out B b (l ++ 91 :: commaL ((wrL is).take q)) _ Y2 (below_on HOX.out HB3.out HS3.out) HI3.out (by
          have h1 := HLB.out (q + 1)
          rw [HT.out] at h1
          simp only [List.length_append, List.length_cons] at h1 ⊢
          omega) (Nat.le_trans HBW.out HS3.out) (fun X9 h9 => HTB.out X9 (HB3.out.trans h9)) HCX.out).mono ?_
        rintro e w5 ⟨rfl, h3, hb3, hk3, hs3⟩
        have HI5 : Hid (IsB B b (l ++ 91 :: commaL ((wrL is).take (q + 1))) w5) := Lib.hid (by rw [HT.out]; simpa using h3)
        have HB5 := Lib.hid (HB3.out.trans hb3)
        have HK5 := Lib.hid (HK3.out.trans hk3)
        have HS5 := Lib.hid (Nat.le_trans HS3.out hs3)
        clear h3 hb3 hk3 hs3
        go_wp2_with fail
        go_roundw
        case rel => exact ⟨q + 1, by omega, by go_num, HI5, HB5, HK5, HS5⟩
        case measure => simp [intOf]; omega
      · have HT : Hid (commaL ((wrL is).take (q + 1)) = (commaL ((wrL is).take q) ++ [44]) ++ wrV x) := Lib.hid (by
          rw [comma_take HXU.out (by omega)]; simp)
        have hqb : (0 : Int) < (q : Int) := by omega
        go_wp2_with fail
        refine (wbyte B b _ 44 Y HI2.out (by have := HLB.out q; rw [List.length_append, List.length_cons]; omega) (Nat.le_trans HBW.out HS2.out)).mono ?_
        rintro e Y2 ⟨rfl, h3, hb3, hk3, hs3⟩
        have HI3 := Lib.hid h3
        have HB3 := Lib.hid (HB2.out.trans hb3)
        have HK3 := Lib.hid (HK2.out.trans hk3)
        have HS3 := Lib.hid (Nat.le_trans HS2.out hs3)
        have HR3 := Lib.hid (hk3.rh HRF.out HBX.out (by decide))
        clear h3 hb3 hk3 hs3 HI2 HB2 HK2 HS2 HRF hq0
        obtain ⟨f0, f1, f2, f3, f4⟩ := va5 HR3.out
        go_wp2_with fail
        refine (HSX.out B b ((l ++ 91 :: commaL ((wrL is).take q)) ++ [44]) _ Y2 (below_on HOX.out HB3.out HS3.out) HI3.out (by
          have h1 := HLB.out (q + 1)
          rw [HT.out] at h1
          simp only [List.length_append, List.length_cons, List.length_nil] at h1 ⊢
          omega) (Nat.le_trans HBW.out HS3.out) (fun X9 h9 => HTB.out X9 (HB3.out.trans h9)) HCX.out).mono ?_
        rintro e w5 ⟨rfl, h3, hb3, hk3, hs3⟩
        have HI5 : Hid (IsB B b (l ++ 91 :: commaL ((wrL is).take (q + 1))) w5) := Lib.hid (by rw [HT.out]; simpa using h3)
        have HB5 := Lib.hid (HB3.out.trans hb3)
        have HK5 := Lib.hid (HK3.out.trans hk3)
        have HS5 := Lib.hid (Nat.le_trans HS3.out hs3)
        clear h3 hb3 hk3 hs3
        go_wp2_with fail
        go_roundw
        case rel => exact ⟨q + 1, by omega, by go_num, HI5, HB5, HK5, HS5⟩
        case measure => simp [intOf]; omega
    · obtain rfl : q = is.length := by omega
      have HT : Hid ((l ++ 91 :: commaL ((wrL is).take is.length)) ++ [93] = l ++ wrV (.mk 4 n s is fs)) := Lib.hid (by
        rw [HW.out, ← HWL.out, List.take_length]; simp)
      go_wp2_with fail
      refine (wbyte B b _ 93 X HI1.out (by have := HLB.out is.length; rw [List.length_append, List.length_cons]; omega) (Nat.le_trans HBW.out HS1.out)).mono ?_
      rintro e w3 ⟨rfl, h3, hb3, hk3, hs3⟩
      rw [HT.out] at h3
      have HF : Hid (WrPost B b l (wrV (.mk 4 n s is fs)) w (.returned (.tuple #[])) w3) := Lib.hid ⟨rfl, h3, HB1.out.trans hb3, HK1.out.trans hk3, Nat.le_trans HS1.out hs3⟩
      clear h3 hb3 hk3 hs3
      go_wp2_with fail
      go_end0
      exact HF.out
end Fd
end Go.Proofs.YtbhcfmdogdaodaaDoor
namespace Go.Proofs.YtbhcfmdogdaodaaDoor
open Go.RowKit
namespace Fd
open _root_.Go.Proofs.YtbhcfmdogdaodaaDoor.Nt (RH RH.cell RH.box RH.lt RH.new RH.ext RH.fre RH.set RH.other)
open _root_.Go.Proofs.YtbhcfmdogdaodaaDoor.Rw (All2 All2.get All2.length wpList_load_agg wp_stored)
theorem name_range {n k : Int} {s : ByteArray} {is : List V} {fs : List F} (h : chkV (.mk k n s is fs) = 0) : ∀ f ∈ fs, (nmF f).size ≤ 60 := by
  have key : ∀ (l : List F) (p : Option ByteArray), chkFs p l = 0 → ∀ f ∈ l, (nmF f).size ≤ 60 := by
    intro l
    induction l with
    | nil => intro _ _ f hf; cases hf
    | cons g r ih =>
      obtain ⟨a, x⟩ := g
      intro p h f hf
      unfold chkFs at h
      by_cases h1 : nameBad a = true
      · rw [if_pos h1] at h; cases h
      rw [if_neg h1] at h
      by_cases h2 : ordBad p a = true
      · rw [if_pos h2] at h; cases h
      rw [if_neg h2] at h
      by_cases h3 : chkV x ≠ 0
      · rw [if_pos h3] at h; exact absurd h h3
      rw [if_neg h3] at h
      rcases List.mem_cons.1 hf with rfl | hf
      · show a.size ≤ 60
        unfold nameBad at h1
        simp at h1
        omega
      · exact ih _ h f hf
  unfold chkV at h
  by_cases h1 : ownF k n s is.length fs.length ≠ 0
  · rw [if_pos h1] at h; exact absurd h h1
  rw [if_neg h1] at h
  by_cases h2 : chkL is ≠ 0
  · rw [if_pos h2] at h; exact absurd h h2
  rw [if_neg h2] at h
  exact key fs none h
set_option maxRecDepth 100000 in
set_option maxHeartbeats 16000000 in
theorem sh_obj (n : Int) (s : ByteArray) (is : List V) (fs : List F) (HS0 : ∀ f ∈ fs, ShAt (vlF f)) : ShAt (.mk 5 n s is fs) := by
  have HSH := Lib.hid HS0
  clear HS0
  intro B b l cs w hx hI hlen hBw hTB hck
  obtain ⟨ai, ci, af, cf, EF, rfl, i1, i2, i3, hIS0, hFS⟩ := on_open hx
  obtain ⟨EI, hIS⟩ := on_fix (k := 5) (by omega) (fun _ _ _ h => RepV.len h) hIS0
  clear hIS0
  have HI := Lib.hid hI
  have HLN := Lib.hid hlen
  have HBW := Lib.hid hBw
  have HTB := Lib.hid hTB
  have HCK := Lib.hid hck
  have HIS := Lib.hid hIS
  have HFS := Lib.hid hFS
  have HBL : Hid (b < w.heap.size) := Lib.hid (isb_lt hI)
  clear hx hI hlen hBw hTB hck hIS hFS i1 i2 i3
  go_enter Tryd.func40, Tryd.ntmps40
  go_upto_region 1 with (fail)
  refine Tx.wp_vr1 fun W hbW hR1 => ?_
  obtain ⟨a0, a1, a2, a3, a4⟩ := va5 hR1
  have HI0 := Lib.hid (IsB.ext HI.out hbW)
  have HB0 : Hid (Below B w W) := Lib.hid (hbW.mono HBW.out)
  have HK0 := Lib.hid (BK.below (b := b) hbW)
  have HS0 := Lib.hid hbW.size
  have HR1 := Lib.hid hR1
  clear hR1 hbW
  have hck := chkV_ok HCK.out
  have HCI := Lib.hid hck.2.2.2
  have HCN : Hid (∀ f ∈ fs, (nmF f).size ≤ 60) := Lib.hid (name_range HCK.out)
  clear hck
  have hlen4 : (fs.length : Int) ≤ 9223372036854775807 := by have := (fs_len HCK.out).1; change fs.length ≤ 100 at this; omega
  have HW : Hid (wrV (.mk 5 n s is fs) = 123 :: (commaL (wrF fs) ++ [125])) := Lib.hid (by simp [wrV])
  have HWL : Hid ((wrF fs).length = fs.length) := Lib.hid (by rw [wrF_map, List.length_map])
  have HLB : Hid (∀ q, (commaL ((wrF fs).take q)).length + 2 + l.length ≤ 1000000000) := Lib.hid (fun q => by
    have h1 := comma_le (wrF fs) q
    have h2 := HLN.out
    rw [HW.out] at h2
    simp only [List.length_cons, List.length_append, List.length_nil] at h2
    omega)
  go_wp2_with fail
  refine (wbyte B b l 123 W HI0.out (by have := HLN.out; omega) (Nat.le_trans HBW.out HS0.out)).mono ?_
  rintro e w3 ⟨rfl, h3, hb3, hk3, hs3⟩
  have HI1 : Hid (IsB B b (l ++ 123 :: commaL ((wrF fs).take 0)) w3) := Lib.hid (by simpa [commaL] using h3)
  have HB1 := Lib.hid (HB0.out.trans hb3)
  have HK1 := Lib.hid (HK0.out.trans hk3)
  have HS1 := Lib.hid (Nat.le_trans HS0.out hs3)
  obtain ⟨a0, a1, a2, a3, a4⟩ := va5 (hk3.rh HR1.out (by have := HBL.out; omega) (by decide))
  clear h3 hb3 hk3 hs3 HI0 HB0 HK0 HS0
  go_wp2_with fail
  go_loopw [63] (fun i wr => ∃ q : Nat, q ≤ fs.length ∧ i = .int .i64 (q : Int) ∧ Hid (IsB B b (l ++ 123 :: commaL ((wrF fs).take q)) wr) ∧ Hid (Below B w wr) ∧ Hid (BK b w wr) ∧ Hid (w.heap.size ≤ wr.heap.size)) (fun i _ => fs.length - (intOf i).toNat)
  case atStart => exact ⟨0, Nat.zero_le _, rfl, HI1, HB1, HK1, HS1⟩
  case round =>
    clear HI1 HB1 HK1 HS1
    obtain ⟨q, hq, rfl, HI1, HB1, HK1, HS1⟩ := hrel
    generalize hXX : wr = X at *
    clear hXX a0 a1 a2 a3 a4
    by_cases hlt : q < fs.length
    · obtain ⟨f, hxu⟩ : ∃ f, fs[q]? = some f := ⟨_, List.getElem?_eq_getElem hlt⟩
      obtain ⟨cy, hcy, hOX⟩ := All2.get (on_all (On.map HFS.out (fun _ h => h.2))) hxu
      have hry := (below_on hOX HB1.out HS1.out).now
      obtain ⟨p, o, e0, hp0, hcell⟩ := sl_elem (below_on HFS.out HB1.out HS1.out).now.1 (all_len (fun _ _ => RepF.len) (below_on HFS.out HB1.out HS1.out).now.2) (by omega) hcy
      subst e0
      obtain ⟨nm, x⟩ := f
      have hry2 := hry
      simp only [RepF] at hry2
      obtain ⟨cv5, rfl, hnm, hrv⟩ := hry2
      obtain ⟨kx, nx, sx, b1, m1, r1, b2, m2, r2, rfl⟩ := V5 hrv
      have HINF := Lib.hid (f_info hry)
      have HONE := Lib.hid (all_arr (RepF.one hry))
      have HOX := Lib.hid (on_value hOX)
      have HXU : Hid ((wrF fs)[q]? = some (quoL nm.data.toList ++ 58 :: wrV x)) := Lib.hid (by rw [wrF_map, List.getElem?_map, hxu]; rfl)
      have HCX : Hid (chkV x = 0) := Lib.hid (HCI.out _ (List.mem_of_getElem? hxu))
      have HCM : Hid (nm.size ≤ 60) := Lib.hid (HCN.out _ (List.mem_of_getElem? hxu))
      have HSX : Hid (ShAt x) := Lib.hid (HSH.out _ (List.mem_of_getElem? hxu))
      have hqi : (q : Int) < (fs.length : Int) := by omega
      clear hxu hcy hry hrv hnm hOX hp0
      go_upto_region 25 with (first | (refine wpList_load_agg rfl _ _ rfl p (o + q * 6) (by rfl) [.string nm, .int .i64 kx, .int .i64 nx, .string sx, .slice b1 m1 r1, .slice b2 m2 r2] (fun j v hj => by rw [Nat.add_assoc]; exact hcell j v hj) _ Tryd.underlying43 rfl HINF.out ?_) | (refine wpList_store_row rfl _ _ _ rfl X.heap.size #[.string nm, .int .i64 kx, .int .i64 nx, .string sx, .slice b1 m1 r1, .slice b2 m2 r2] rfl rfl _ _ (RH.new _ _ _) HINF.out rfl HONE.out ?_))
      refine wp_stored fun Y hbY hRf => ?_
      have HBX : Hid (X.heap.size ≠ b) := Lib.hid (fun e => by have := isb_lt HI1.out; omega)
      have HI2 := Lib.hid (IsB.ext HI1.out hbY)
      have HB2 := Lib.hid (HB1.out.trans (hbY.mono (Nat.le_trans HBW.out HS1.out)))
      have HK2 := Lib.hid (HK1.out.trans (BK.below (b := b) hbY))
      have HS2 := Lib.hid (Nat.le_trans HS1.out hbY.size)
      have HRF := Lib.hid hRf
      generalize X.heap.size = fb at *
      clear hbY hRf hcell HINF HONE HI1 HB1 HK1 HS1
      by_cases hq0 : q = 0
      · have HT : Hid (commaL ((wrF fs).take (q + 1)) = commaL ((wrF fs).take q) ++ (quoL nm.data.toList ++ 58 :: wrV x)) := Lib.hid (by
          have h9 := HXU.out
          rw [hq0] at h9 ⊢
          rw [comma_first h9, List.take_zero]; rfl)
        have hqb : ¬ (0 : Int) < (q : Int) := by omega
        clear hq0
        have HI3 := HI2
        have HB3 := HB2
        have HK3 := HK2
        have HS3 := HS2
        have HR3 := HRF
        clear HI2 HB2 HK2 HS2 HRF
        generalize Y = Y2 at *
        have HLX : Hid ((l ++ 123 :: commaL ((wrF fs).take q)).length + (quoL nm.data.toList).length + 1 + (wrV x).length ≤ 1000000000) := Lib.hid (by
          have h1 := HLB.out (q + 1)
          rw [HT.out] at h1
          simp only [List.length_append, List.length_cons] at h1 ⊢
          omega)
        have f0 : Y2.cell? ⟨fb, 0, none⟩ = some (.string nm) := HR3.out.cell 0
        go_wp2_with fail
        refine (quote_at B b (l ++ 123 :: commaL ((wrF fs).take q)) nm Y2 HI3.out (by have := HLX.out; have := HCM.out; omega) (Nat.le_trans HBW.out HS3.out)).mono ?_
        rintro e w4 ⟨rfl, h3, hb3, hk3, hs3⟩
        have HI4 := Lib.hid h3
        have HB4 := Lib.hid (HB3.out.trans hb3)
        have HK4 := Lib.hid (HK3.out.trans hk3)
        have HS4 := Lib.hid (Nat.le_trans HS3.out hs3)
        have HR4 := Lib.hid (hk3.rh HR3.out HBX.out (by decide))
        clear h3 hb3 hk3 hs3 f0
        go_wp2_with fail
        refine (wbyte B b _ 58 w4 HI4.out (by have := HLX.out; simp only [List.length_append, List.length_cons] at this ⊢; omega) (Nat.le_trans HBW.out HS4.out)).mono ?_
        rintro e w5 ⟨rfl, h3, hb3, hk3, hs3⟩
        have HI5 := Lib.hid h3
        have HB5 := Lib.hid (HB4.out.trans hb3)
        have HK5 := Lib.hid (HK4.out.trans hk3)
        have HS5 := Lib.hid (Nat.le_trans HS4.out hs3)
        have HR5 := Lib.hid (hk3.rh HR4.out HBX.out (by decide))
        clear h3 hb3 hk3 hs3
        have f1 : w5.cell? ⟨fb, 1, none⟩ = some (.int .i64 kx) := HR5.out.cell 1
        have f2 : w5.cell? ⟨fb, 2, none⟩ = some (.int .i64 nx) := HR5.out.cell 2
        have f3 : w5.cell? ⟨fb, 3, none⟩ = some (.string sx) := HR5.out.cell 3
        have f4 : w5.cell? ⟨fb, 4, none⟩ = some (.slice b1 m1 r1) := HR5.out.cell 4
        have f5 : w5.cell? ⟨fb, 5, none⟩ = some (.slice b2 m2 r2) := HR5.out.cell 5
        go_wp2_with fail
        refine (HSX.out B b _ _ w5 (below_on HOX.out HB5.out HS5.out) HI5.out (by have := HLX.out; simp only [List.length_append, List.length_cons, List.length_nil] at this ⊢; omega) (Nat.le_trans HBW.out HS5.out) (fun X9 h9 => HTB.out X9 (HB5.out.trans h9)) HCX.out).mono ?_
        rintro e w6 ⟨rfl, h3, hb3, hk3, hs3⟩
        have HI6 : Hid (IsB B b (l ++ 123 :: commaL ((wrF fs).take (q + 1))) w6) := Lib.hid (by rw [HT.out]; simpa using h3)
        have HB6 := Lib.hid (HB5.out.trans hb3)
        have HK6 := Lib.hid (HK5.out.trans hk3)
        have HS6 := Lib.hid (Nat.le_trans HS5.out hs3)
        clear h3 hb3 hk3 hs3
        go_wp2_with fail
        go_roundw
        case rel => exact ⟨q + 1, by omega, by go_num, HI6, HB6, HK6, HS6⟩
        case measure => simp [intOf]; omega
      · have HT : Hid (commaL ((wrF fs).take (q + 1)) = (commaL ((wrF fs).take q) ++ [44]) ++ (quoL nm.data.toList ++ 58 :: wrV x)) := Lib.hid (by
          rw [comma_take HXU.out (by omega)]; simp)
        have hqb : (0 : Int) < (q : Int) := by omega
        go_wp2_with fail
        refine (wbyte B b _ 44 Y HI2.out (by have := HLB.out q; rw [List.length_append, List.length_cons]; omega) (Nat.le_trans HBW.out HS2.out)).mono ?_
        rintro e Y2 ⟨rfl, h3, hb3, hk3, hs3⟩
        have HI3 := Lib.hid h3
        have HB3 := Lib.hid (HB2.out.trans hb3)
        have HK3 := Lib.hid (HK2.out.trans hk3)
        have HS3 := Lib.hid (Nat.le_trans HS2.out hs3)
        have HR3 := Lib.hid (hk3.rh HRF.out HBX.out (by decide))
        clear h3 hb3 hk3 hs3 HI2 HB2 HK2 HS2 HRF hq0
        have HLX : Hid (((l ++ 123 :: commaL ((wrF fs).take q)) ++ [44]).length + (quoL nm.data.toList).length + 1 + (wrV x).length ≤ 1000000000) := Lib.hid (by
          have h1 := HLB.out (q + 1)
          rw [HT.out] at h1
          simp only [List.length_append, List.length_cons, List.length_nil] at h1 ⊢
          omega)
        have f0 : Y2.cell? ⟨fb, 0, none⟩ = some (.string nm) := HR3.out.cell 0
        go_wp2_with fail
        refine (quote_at B b ((l ++ 123 :: commaL ((wrF fs).take q)) ++ [44]) nm Y2 HI3.out (by have := HLX.out; have := HCM.out; omega) (Nat.le_trans HBW.out HS3.out)).mono ?_
        rintro e w4 ⟨rfl, h3, hb3, hk3, hs3⟩
        have HI4 := Lib.hid h3
        have HB4 := Lib.hid (HB3.out.trans hb3)
        have HK4 := Lib.hid (HK3.out.trans hk3)
        have HS4 := Lib.hid (Nat.le_trans HS3.out hs3)
        have HR4 := Lib.hid (hk3.rh HR3.out HBX.out (by decide))
        clear h3 hb3 hk3 hs3 f0
        go_wp2_with fail
        refine (wbyte B b _ 58 w4 HI4.out (by have := HLX.out; simp only [List.length_append, List.length_cons, List.length_nil] at this ⊢; omega) (Nat.le_trans HBW.out HS4.out)).mono ?_
        rintro e w5 ⟨rfl, h3, hb3, hk3, hs3⟩
        have HI5 := Lib.hid h3
        have HB5 := Lib.hid (HB4.out.trans hb3)
        have HK5 := Lib.hid (HK4.out.trans hk3)
        have HS5 := Lib.hid (Nat.le_trans HS4.out hs3)
        have HR5 := Lib.hid (hk3.rh HR4.out HBX.out (by decide))
        clear h3 hb3 hk3 hs3
        have f1 : w5.cell? ⟨fb, 1, none⟩ = some (.int .i64 kx) := HR5.out.cell 1
        have f2 : w5.cell? ⟨fb, 2, none⟩ = some (.int .i64 nx) := HR5.out.cell 2
        have f3 : w5.cell? ⟨fb, 3, none⟩ = some (.string sx) := HR5.out.cell 3
        have f4 : w5.cell? ⟨fb, 4, none⟩ = some (.slice b1 m1 r1) := HR5.out.cell 4
        have f5 : w5.cell? ⟨fb, 5, none⟩ = some (.slice b2 m2 r2) := HR5.out.cell 5
        go_wp2_with fail
        refine (HSX.out B b _ _ w5 (below_on HOX.out HB5.out HS5.out) HI5.out (by have := HLX.out; simp only [List.length_append, List.length_cons, List.length_nil] at this ⊢; omega) (Nat.le_trans HBW.out HS5.out) (fun X9 h9 => HTB.out X9 (HB5.out.trans h9)) HCX.out).mono ?_
        rintro e w6 ⟨rfl, h3, hb3, hk3, hs3⟩
        have HI6 : Hid (IsB B b (l ++ 123 :: commaL ((wrF fs).take (q + 1))) w6) := Lib.hid (by rw [HT.out]; simpa using h3)
        have HB6 := Lib.hid (HB5.out.trans hb3)
        have HK6 := Lib.hid (HK5.out.trans hk3)
        have HS6 := Lib.hid (Nat.le_trans HS5.out hs3)
        clear h3 hb3 hk3 hs3
        go_wp2_with fail
        go_roundw
        case rel => exact ⟨q + 1, by omega, by go_num, HI6, HB6, HK6, HS6⟩
        case measure => simp [intOf]; omega
    · obtain rfl : q = fs.length := by omega
      have HT : Hid ((l ++ 123 :: commaL ((wrF fs).take fs.length)) ++ [125] = l ++ wrV (.mk 5 n s is fs)) := Lib.hid (by
        rw [HW.out, ← HWL.out, List.take_length]; simp)
      go_wp2_with fail
      refine (wbyte B b _ 125 X HI1.out (by have := HLB.out fs.length; rw [List.length_append, List.length_cons]; omega) (Nat.le_trans HBW.out HS1.out)).mono ?_
      rintro e w3 ⟨rfl, h3, hb3, hk3, hs3⟩
      rw [HT.out] at h3
      have HF : Hid (WrPost B b l (wrV (.mk 5 n s is fs)) w (.returned (.tuple #[])) w3) := Lib.hid ⟨rfl, h3, HB1.out.trans hb3, HK1.out.trans hk3, Nat.le_trans HS1.out hs3⟩
      clear h3 hb3 hk3 hs3
      go_wp2_with fail
      go_end0
      exact HF.out
theorem sh_all (k n : Int) (s : ByteArray) (is : List V) (fs : List F) (hi : ∀ x ∈ is, ShAt x) (hf : ∀ f ∈ fs, ShAt (vlF f)) : ShAt (.mk k n s is fs) := by
  intro B b l cs w hx hI hlen hBw hTB hck
  have hk := (ownF_ok (chkV_ok hck).1).1
  have : k = 0 ∨ k = 1 ∨ k = 2 ∨ k = 3 ∨ k = 4 ∨ k = 5 := by omega
  rcases this with rfl | rfl | rfl | rfl | rfl | rfl
  · exact sh_none n s is fs B b l cs w hx hI hlen hBw hTB hck
  · exact sh_bool n s is fs B b l cs w hx hI hlen hBw hTB hck
  · exact sh_num n s is fs B b l cs w hx hI hlen hBw hTB hck
  · exact sh_text n s is fs B b l cs w hx hI hlen hBw hTB hck
  · exact sh_list n s is fs hi B b l cs w hx hI hlen hBw hTB hck
  · exact sh_obj n s is fs hf B b l cs w hx hI hlen hBw hTB hck
mutual
theorem shV : ∀ x : V, ShAt x
  | .mk k n s is fs => sh_all k n s is fs (shL is) (shF fs)
theorem shL : ∀ l : List V, ∀ x ∈ l, ShAt x
  | [] => fun _ h => by cases h
  | y :: l => fun x h => (List.mem_cons.1 h).elim (fun e => e ▸ shV y) (fun h => shL l x h)
theorem shF : ∀ l : List F, ∀ f ∈ l, ShAt (vlF f)
  | [] => fun _ h => by cases h
  | .mk nm y :: l => fun f h => (List.mem_cons.1 h).elim (fun e => by rw [e]; exact shV y) (fun h => shF l f h)
end
end Fd
end Go.Proofs.YtbhcfmdogdaodaaDoor
namespace Go.Proofs.YtbhcfmdogdaodaaDoor
namespace Fd
open _root_.Go.Proofs.YtbhcfmdogdaodaaDoor.Tx _root_.Go.Proofs.YtbhcfmdogdaodaaDoor.Nm
theorem frac_len (r : Nat) : (fracT r).length ≤ 4 := by
  unfold fracT
  split
  · simp
  · have h := trim_len (dig3 r) 48
    have e : (dig3 r).length = 3 := rfl
    rw [List.length_cons]; omega
theorem num_len {n : Int} (h1 : -1000000000000000 < n) (h2 : n < 1000000000000000) : (numT n).length ≤ 30 := by
  have h3 := frac_len (n.natAbs % 1000)
  have h4 : (decS (n.natAbs / 1000)).length ≤ 15 := decS_length (by omega) (by omega)
  unfold numT
  rw [List.length_append, List.length_append]
  have : (if n < 0 then [(45 : UInt8)] else []).length ≤ 1 := by split <;> simp
  omega
theorem commaL_le (l : List (List UInt8)) : (commaL l).length ≤ (runL l).length := by
  cases l with
  | nil => simp [commaL]
  | cons x r => rw [comma_run, runL, List.length_cons]; omega
mutual
theorem wr_len : ∀ {x : V}, chkV x = 0 → (wrV x).length + 130 ≤ 1300 * pN x
  | .mk k n s is fs, h => by
    have hp := pN_pos (.mk k n s is fs)
    obtain ⟨hk, _⟩ := ownF_ok (chkV_ok h).1
    have hl := wrL_len (chkV_ok h).2.1
    have hf := wrF_len (fields_ok h).2 (name_range h)
    have h1 := commaL_le (wrL is)
    have h2 := commaL_le (wrF fs)
    have hcase : k = 0 ∨ k = 1 ∨ k = 2 ∨ k = 3 ∨ k = 4 ∨ k = 5 := by omega
    simp only [pN] at hp ⊢
    simp only [fields] at hf
    rcases hcase with rfl | rfl | rfl | rfl | rfl | rfl
    · simp [wrV]; omega
    · rw [wrV, if_neg (by decide), if_pos rfl]; split <;> simp <;> omega
    · have h3 := num_range h
      have h4 := num_len h3.1 h3.2
      rw [wrV, if_neg (by decide), if_neg (by decide), if_pos rfl]; omega
    · have h3 := text_range h
      have h4 := quo_len s.data.toList
      have h5 : s.data.toList.length = s.size := (Lib.size_eq s).symm
      rw [wrV, if_neg (by decide), if_neg (by decide), if_neg (by decide), if_pos rfl]; omega
    · rw [wrV, if_neg (by decide), if_neg (by decide), if_neg (by decide), if_neg (by decide), if_pos rfl]
      simp only [List.length_cons, List.length_append, List.length_nil]; omega
    · rw [wrV, if_neg (by decide), if_neg (by decide), if_neg (by decide), if_neg (by decide), if_neg (by decide)]
      simp only [List.length_cons, List.length_append, List.length_nil]; omega
theorem wrL_len : ∀ {l : List V}, (∀ x ∈ l, chkV x = 0) → (runL (wrL l)).length ≤ 1300 * pNL l
  | [], _ => by simp [wrL, runL]
  | x :: r, h => by
    have h1 := wr_len (x := x) (h x (by simp))
    have h2 := wrL_len (l := r) (fun y hy => h y (by simp [hy]))
    simp only [wrL, runL, pNL, List.length_cons, List.length_append]; omega
theorem wrF_len : ∀ {l : List F}, (∀ f ∈ l, chkV (vlF f) = 0) → (∀ f ∈ l, (nmF f).size ≤ 60) → (runL (wrF l)).length ≤ 1300 * pNF l
  | [], _, _ => by simp [wrF, runL]
  | .mk nm x :: r, h, hn => by
    have h1 := wr_len (x := x) (h (.mk nm x) (by simp))
    have h2 := wrF_len (l := r) (fun y hy => h y (by simp [hy])) (fun y hy => hn y (by simp [hy]))
    have h3 : nm.size ≤ 60 := hn (.mk nm x) (by simp)
    have h4 := quo_len nm.data.toList
    have h5 : nm.data.toList.length = nm.size := (Lib.size_eq nm).symm
    simp only [wrF, runL, pNF, List.length_cons, List.length_append]; omega
end
/-- what Show answers -/
def shwF (x : V) : List UInt8 × Int := if chkF x ≠ 0 then ([], chkF x) else if 20000 < (wrV x).length then ([], 2) else (wrV x, 0)
end Fd
end Go.Proofs.YtbhcfmdogdaodaaDoor
