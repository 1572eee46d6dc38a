/- The walk of MetricMetricsMatchSpec. Printed by gen_lawmt.py. -/
import Derived.Test.YteaaibpanocgaaaDoorMt08
import Derived.Test.YteaaibpanocgaaaDoorMt13
import Derived.Test.YteaaibpanocgaaaDoorMt09
import Derived.Test.YteaaibpanocgaaaDoorMt00
import Derived.Test.YteaaibpanocgaaaDoorMt11
import Derived.Test.YteaaibpanocgaaaDoorMt03
namespace Go.Proofs.YteaaibpanocgaaaDoor
open Go.RowKit
namespace Tx
open _root_.Go.Proofs.YteaaibpanocgaaaDoor.Nm
open _root_.Go.Proofs.YteaaibpanocgaaaDoor.Nt (RH RH.cell RH.box RH.lt RH.new RH.ext RH.fre RH.set RH.other)
set_option maxRecDepth 100000 in
set_option maxHeartbeats 16000000 in
theorem lawMms_at (l : List Met) (hok : ∀ m ∈ l, m.ok) (a : Option Addr) (c : Nat) (s : ByteArray) (hs : s.size ≤ 1048576) (w : World) (hl : Sl w (.slice a l.length c) l.length (l.flatMap metL)) (hr : Er w) (ht : Tb w) (hm : Ml w) : Calls Tryd.prog 3 #[.slice a l.length c, .string s] w fun e w' => e = .returned (.bool true) ∧ Below w.heap.size w w' := by
 have HOK := Lib.hid hok
 have HSL := Lib.hid hl
 have HS0 := Lib.hid hs
 have HE0 := Lib.hid hr
 have HT0 := Lib.hid ht
 have HM0 := Lib.hid hm
 have hl63 : l.length ≤ 9223372036854775807 := by obtain ⟨_, _, hv, h1, h2, _⟩ := hl; cases hv; unfold maxLen at h2; omega
 clear hok hl hs hr ht hm
 obtain ⟨f, hf⟩ : ∃ z, chkM l = z := ⟨_, rfl⟩
 obtain ⟨tx, htx⟩ : ∃ z, txS l = z := ⟨_, rfl⟩
 have HF := Lib.hid hf
 have HTX := Lib.hid htx
 clear hf htx
 go_enter Tryd.func3, Tryd.ntmps3
 go_wp2
 go_loopw [17] (fun i wr => ∃ k : Nat, k ≤ l.length ∧ i = .int .i64 k ∧ Below w.heap.size w wr) (fun i _ => l.length - (intOf i).toNat)
 case atStart => exact ⟨0, by omega, rfl, Below.refl _ _⟩
 case round =>
  obtain ⟨k, hk, rfl, hbr⟩ := hrel
  by_cases hlt : k < l.length
  ·have hgk := List.getElem?_eq_getElem hlt
   have hmo := HOK.out _ (List.getElem_mem hlt)
   generalize l[k] = m at hgk hmo
   obtain ⟨b, o, rfl, hcs⟩ := (HSL.out.ext hbr).elem metL_len (by omega : 0 < 6) hgk
   have e0 := hcs 0 _ rfl
   have e1 := hcs 1 _ rfl
   have e2 := hcs 2 _ rfl
   have e3 := hcs 3 _ rfl
   have e4 := hcs 4 _ rfl
   have e5 := hcs 5 _ rfl
   rw [Nat.add_zero] at e0
   have hk0 : (0 : Int) ≤ (k : Int) := Int.natCast_nonneg _
   have hk1 : (k : Int) < (l.length : Int) := by omega
   obtain ⟨fc, hfc⟩ : ∃ z, checkM m = z := ⟨_, rfl⟩
   have HC1 := Lib.hid (fun W9 => (by have h9 := metric_Check m hmo W9; rw [hfc] at h9; exact h9 : Calls Tryd.prog 5 #[.agg (metC m)] W9 fun r w' => r = .returned (.int .i64 fc) ∧ Below W9.heap.size W9 w'))
   have HC2 := Lib.hid (fun W9 => (by have h9 := ref8_Check m hmo W9; rw [hfc] at h9; exact h9 : Calls Tryd.prog 6 #[.agg (metC m)] W9 fun r w' => r = .returned (.int .i64 fc) ∧ Below W9.heap.size W9 w'))
   clear hcs hgk hmo hfc
   go_upto_region 4 with (fail)
   clear e0 e1 e2 e3 e4 e5
   refine wp_box1 fun X hszX hbX hM => ?_
   obtain ⟨_, hM2⟩ := id hM
   obtain ⟨nm, kd, ev, ln, bf, cp⟩ := m
   have c0 := (hM2 0).trans (show _ = some (.string nm) from rfl)
   have c1 := (hM2 1).trans (show _ = some (.int .i64 kd) from rfl)
   have c2 := (hM2 2).trans (show _ = some (.string ev) from rfl)
   have c3 := (hM2 3).trans (show _ = some (.int .i64 ln) from rfl)
   have c4 := (hM2 4).trans (show _ = some (.int .i64 bf) from rfl)
   have c5 := (hM2 5).trans (show _ = some (.int .i64 cp) from rfl)
   clear hM hM2 hszX
   refine Grow.wp_region_grow 4 [TP.eq (.agg #[.string nm, .int .i64 (kd), .string ev, .int .i64 (ln), .int .i64 (bf), .int .i64 (cp)]), TP.eq (.int .i64 (fc)), TP.eq (.agg #[.string nm, .int .i64 (kd), .string ev, .int .i64 (ln), .int .i64 (bf), .int .i64 (cp)]), TP.eq (.int .i64 (fc))] [[], [0], [], [2]] (by kernel_rfl) (by kernel_rfl) ⟨?o0g, ?o1g, ?o2g, ?o3g, trivial⟩ ?_
   case o0g | o2g =>
    intro w' hb
    have c0' := zzc hb c0
    have c1' := zzc hb c1
    have c2' := zzc hb c2
    have c3' := zzc hb c3
    have c4' := zzc hb c4
    have c5' := zzc hb c5
    show wpList _ _ _ _ _ _
    go_wp2
    exact ⟨rfl, Below.refl _ _, rfl⟩
   case o1g =>
    intro w' hb v1 hv1
    obtain rfl : v1 = _ := hv1
    show wpList _ _ _ _ _ _
    simp only [Grow.dstOf, zz1, zz3, zz4, Act.put, zz5, zz6, zz7]
    go_wp2_with fail
    refine (HC1.out w').mono ?_
    rintro e wz ⟨rfl, hbz⟩
    go_wp2
    exact ⟨rfl, hbz, rfl⟩
   case o3g =>
    intro w' hb v1 hv1
    obtain rfl : v1 = _ := hv1
    show wpList _ _ _ _ _ _
    simp only [Grow.dstOf, zz1, zz2, zz3, zz4, Act.put, zz5, zz6, zz7]
    go_wp2_with fail
    refine (HC2.out w').mono ?_
    rintro e wz ⟨rfl, hbz⟩
    go_wp2
    exact ⟨rfl, hbz, rfl⟩
   intro W7 hbz u0 hu0 u1 hu1 u2 hu2 u3 hu3
   obtain rfl : u1 = _ := hu1
   obtain rfl : u3 = _ := hu3
   have hb7 := ext_trans hbr (ext_trans hbX hbz)
   clear hu0 hu2 c0 c1 c2 c3 c4 c5 hbr hbX hbz HC1 HC2
   show wpList _ _ _ _ _ _
   simp only [Act.put, zz5, zz6, zz7]
   go_wp2
   go_roundw
   case rel => exact ⟨k + 1, by omega, by go_num, hb7⟩
   case measure => simp [intOf]; omega
  ·go_wp2_with fail
   refine (mtText_at l HOK.out a c wr (HSL.out.ext hbr) (HT0.out.ext hbr)).mono ?_
   rintro e w1 ⟨rfl, hb1⟩
   rw [HF.out, HTX.out]
   have hb2 := ext_trans hbr hb1
   clear hb1 hbr
   go_wp2_with fail
   refine (ref8Text_at l HOK.out a c w1 (HSL.out.ext hb2) (HT0.out.ext hb2)).mono ?_
   rintro e w2 ⟨rfl, hb3⟩
   rw [HF.out, HTX.out]
   have hb4 := ext_trans hb2 hb3
   clear hb2 hb3
   obtain ⟨x, i, f2, hx⟩ : ∃ x i f2, rdT s.data.toList = (x, i, f2) := ⟨_, _, _, rfl⟩
   go_wp2_with fail
   refine (mtRead_at s HS0.out w2 (HE0.out.ext hb4) (HT0.out.ext hb4) (HM0.out.ext hb4)).mono ?_
   rintro e w3 ⟨v3, rfl, hs3, -, hb5⟩
   rw [hx] at hs3 ⊢
   simp only at hs3
   have HS3 := Lib.hid hs3
   have hb6 := ext_trans hb4 hb5
   obtain ⟨p3, c3, rfl, -⟩ := id hs3
   clear hs3 hb4 hb5
   go_wp2_with fail
   refine (ref8Read_at s HS0.out w3 (HM0.out.ext hb6)).mono ?_
   rintro e w4 ⟨v4, rfl, hs4, -, hb7⟩
   rw [hx] at hs4 ⊢
   simp only at hs4
   have HS4 := Lib.hid hs4
   have hb8 := ext_trans hb6 hb7
   have HS5 := Lib.hid (HS3.out.ext hb7)
   obtain ⟨p4, c4, rfl, -⟩ := id hs4
   clear hs4 hb6 hb7 hx
   go_wp2_with fail
   refine (equal_mets x p3 p4 c3 c4 w4 HS5.out HS4.out).mono ?_
   rintro e w5 ⟨rfl, hb9⟩
   have hb10 := ext_trans hb8 hb9
   go_wp2
   go_ret
   exact ⟨by simp, hb10⟩
end Tx
end Go.Proofs.YteaaibpanocgaaaDoor
