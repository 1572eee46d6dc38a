/- plus and Sum of the reference. Printed by gen_sum.py. -/
import Derived.Test.YtilolnjbpokdnaaGreatDoorBq50
import Derived.Test.YtilolnjbpokdnaaGreatDoorBq00
import Derived.Test.YtilolnjbpokdnaaGreatDoorBq03
import Derived.Test.YtilolnjbpokdnaaGreatDoorProg
import Derived.Test.YtilolnjbpokdnaaGreatDoorBq04
import Derived.Test.YtilolnjbpokdnaaGreatDoorBq05
import Derived.Test.YtilolnjbpokdnaaGreatDoorBq06
import Derived.Test.YtilolnjbpokdnaaGreatDoorBq07
import Derived.Test.YtilolnjbpokdnaaGreatDoorBq08
import Derived.Test.YtilolnjbpokdnaaGreatDoorBq09
import Derived.Test.YtilolnjbpokdnaaGreatDoorBq10
import Derived.Test.YtilolnjbpokdnaaGreatDoorBq11
import Derived.Test.YtilolnjbpokdnaaGreatDoorBq12
import Derived.Test.YtilolnjbpokdnaaGreatDoorBq13
import Derived.Test.YtilolnjbpokdnaaGreatDoorBq14
import Derived.Test.YtilolnjbpokdnaaGreatDoorBq15
import Derived.Test.YtilolnjbpokdnaaGreatDoorBq16
import Derived.Test.YtilolnjbpokdnaaGreatDoorBq17
import Derived.Test.YtilolnjbpokdnaaGreatDoorBq18
import Derived.Test.YtilolnjbpokdnaaGreatDoorShelf
import Derived.Test.YtilolnjbpokdnaaGreatDoorBq19
import Derived.Test.YtilolnjbpokdnaaGreatDoorBq20
import Derived.Test.YtilolnjbpokdnaaGreatDoorBq21
import Derived.Test.YtilolnjbpokdnaaGreatDoorBq22
import Derived.Test.YtilolnjbpokdnaaGreatDoorBq23
import Derived.Test.YtilolnjbpokdnaaGreatDoorBq24
import Derived.Test.YtilolnjbpokdnaaGreatDoorBq25
import Derived.Test.YtilolnjbpokdnaaGreatDoorBq26
import Derived.Test.YtilolnjbpokdnaaGreatDoorBq37
namespace Go.Proofs.YtilolnjbpokdnaaGreatDoor
open Go.RowKit
namespace Nt
open _root_.Go.Proofs.YtilolnjbpokdnaaGreatDoor.Nm (showN showD Fits Ln PX okX okX_iff okP okP_iff M5 m5z m5s M5Ok M5Ok.zero M5Ok.step M5Ln M5Ok.ln Ln40.fits)
set_option maxRecDepth 100000 in
set_option maxHeartbeats 16000000 in
theorem refPlus_at (n k s : Int) (hs : IntKind.i64.wrap (n + k) = s) (a1 a2 a3 a4 a5 b1 b2 b3 b4 b5 c1 c2 c3 c4 c5 : Rat) (hp : a1 + b1 = c1 ∧ a2 + b2 = c2 ∧ a3 + b3 = c3 ∧ a4 + b4 = c4 ∧ a5 + b5 = c5) (fa : Fits a1 ∧ Fits a2 ∧ Fits a3 ∧ Fits a4 ∧ Fits a5) (fb : Fits b1 ∧ Fits b2 ∧ Fits b3 ∧ Fits b4 ∧ Fits b5) (fc : Fits c1 ∧ Fits c2 ∧ Fits c3 ∧ Fits c4 ∧ Fits c5) (w : World) (ht : Tab w) :
  Calls Tryz.prog 76 #[.agg #[.int .i64 n, .string (showN (a1)), .string (showD (a1)), .string (showN (a2)), .string (showD (a2)), .string (showN (a3)), .string (showD (a3)), .string (showN (a4)), .string (showD (a4)), .string (showN (a5)), .string (showD (a5))], .agg #[.int .i64 k, .string (showN (b1)), .string (showD (b1)), .string (showN (b2)), .string (showD (b2)), .string (showN (b3)), .string (showD (b3)), .string (showN (b4)), .string (showD (b4)), .string (showN (b5)), .string (showD (b5))]] w fun e w' => e = .returned (.agg #[.int .i64 s, .string (showN (c1)), .string (showD (c1)), .string (showN (c2)), .string (showD (c2)), .string (showN (c3)), .string (showD (c3)), .string (showN (c4)), .string (showD (c4)), .string (showN (c5)), .string (showD (c5))]) ∧ Below w.heap.size w w' := by
 have HP := Lib.hid hp
 have HFA := Lib.hid fa
 have HFB := Lib.hid fb
 have HFC := Lib.hid fc
 clear hp fa fb fc
 go_enter Tryz.func76, Tryz.ntmps76
 have HT0 := Lib.hid ht
 clear ht
 go_upto_region 1 with (fail)
 refine wp_row3 fun w1' hbW hA0 hA1 hR => ?_
 have HB_a := Lib.hid hA0
 have HB_b := Lib.hid hA1
 have HR_o := Lib.hid hR
 have HW := Lib.hid hbW
 clear hbW hR hA0 hA1
 obtain ⟨C, hC⟩ : ∃ C : Array Value, #[.int .i64 s, .string (showN (c1)), .string (showD (c1)), .string (showN (c2)), .string (showD (c2)), .string (showN (c3)), .string (showD (c3)), .string (showN (c4)), .string (showD (c4)), .string (showN (c5)), .string (showD (c5))] = C := ⟨_, rfl⟩
 have HC := Lib.hid hC
 clear hC
 have c_a_0 : w1'.cell? ⟨w.heap.size, 0, none⟩ = some (.int .i64 n) := HB_a.out.2 0
 have c_a_1 : w1'.cell? ⟨w.heap.size, 1, none⟩ = some (.string (showN (a1))) := HB_a.out.2 1
 have c_a_2 : w1'.cell? ⟨w.heap.size, 2, none⟩ = some (.string (showD (a1))) := HB_a.out.2 2
 have c_a_3 : w1'.cell? ⟨w.heap.size, 3, none⟩ = some (.string (showN (a2))) := HB_a.out.2 3
 have c_a_4 : w1'.cell? ⟨w.heap.size, 4, none⟩ = some (.string (showD (a2))) := HB_a.out.2 4
 have c_a_5 : w1'.cell? ⟨w.heap.size, 5, none⟩ = some (.string (showN (a3))) := HB_a.out.2 5
 have c_a_6 : w1'.cell? ⟨w.heap.size, 6, none⟩ = some (.string (showD (a3))) := HB_a.out.2 6
 have c_a_7 : w1'.cell? ⟨w.heap.size, 7, none⟩ = some (.string (showN (a4))) := HB_a.out.2 7
 have c_a_8 : w1'.cell? ⟨w.heap.size, 8, none⟩ = some (.string (showD (a4))) := HB_a.out.2 8
 have c_a_9 : w1'.cell? ⟨w.heap.size, 9, none⟩ = some (.string (showN (a5))) := HB_a.out.2 9
 have c_a_10 : w1'.cell? ⟨w.heap.size, 10, none⟩ = some (.string (showD (a5))) := HB_a.out.2 10
 have c_b_0 : w1'.cell? ⟨(w.heap.size + 1), 0, none⟩ = some (.int .i64 k) := HB_b.out.2 0
 have c_b_1 : w1'.cell? ⟨(w.heap.size + 1), 1, none⟩ = some (.string (showN (b1))) := HB_b.out.2 1
 have c_b_2 : w1'.cell? ⟨(w.heap.size + 1), 2, none⟩ = some (.string (showD (b1))) := HB_b.out.2 2
 have c_b_3 : w1'.cell? ⟨(w.heap.size + 1), 3, none⟩ = some (.string (showN (b2))) := HB_b.out.2 3
 have c_b_4 : w1'.cell? ⟨(w.heap.size + 1), 4, none⟩ = some (.string (showD (b2))) := HB_b.out.2 4
 have c_b_5 : w1'.cell? ⟨(w.heap.size + 1), 5, none⟩ = some (.string (showN (b3))) := HB_b.out.2 5
 have c_b_6 : w1'.cell? ⟨(w.heap.size + 1), 6, none⟩ = some (.string (showD (b3))) := HB_b.out.2 6
 have c_b_7 : w1'.cell? ⟨(w.heap.size + 1), 7, none⟩ = some (.string (showN (b4))) := HB_b.out.2 7
 have c_b_8 : w1'.cell? ⟨(w.heap.size + 1), 8, none⟩ = some (.string (showD (b4))) := HB_b.out.2 8
 have c_b_9 : w1'.cell? ⟨(w.heap.size + 1), 9, none⟩ = some (.string (showN (b5))) := HB_b.out.2 9
 have c_b_10 : w1'.cell? ⟨(w.heap.size + 1), 10, none⟩ = some (.string (showD (b5))) := HB_b.out.2 10
 refine Grow.wp_region_grow 31 [TP.eq (.pointer (some ⟨w.heap.size, 0, none⟩)), TP.eq (.int .i64 n), TP.eq (.pointer (some ⟨(w.heap.size + 1), 0, none⟩)), TP.eq (.int .i64 k), TP.eq (.int .i64 s), TP.eq (.pointer (some ⟨w.heap.size, 1, none⟩)), TP.eq (rtV a1), TP.eq (.pointer (some ⟨(w.heap.size + 1), 1, none⟩)), TP.eq (rtV b1), TP.eq (rtV c1), TP.eq (.pointer (some ⟨w.heap.size, 3, none⟩)), TP.eq (rtV a2), TP.eq (.pointer (some ⟨(w.heap.size + 1), 3, none⟩)), TP.eq (rtV b2), TP.eq (rtV c2), TP.eq (.pointer (some ⟨w.heap.size, 5, none⟩)), TP.eq (rtV a3), TP.eq (.pointer (some ⟨(w.heap.size + 1), 5, none⟩)), TP.eq (rtV b3), TP.eq (rtV c3), TP.eq (.pointer (some ⟨w.heap.size, 7, none⟩)), TP.eq (rtV a4), TP.eq (.pointer (some ⟨(w.heap.size + 1), 7, none⟩)), TP.eq (rtV b4), TP.eq (rtV c4), TP.eq (.pointer (some ⟨w.heap.size, 9, none⟩)), TP.eq (rtV a5), TP.eq (.pointer (some ⟨(w.heap.size + 1), 9, none⟩)), TP.eq (rtV b5), TP.eq (rtV c5), TP.eq (.agg C)] [[], [0], [], [2], [1, 3], [], [5], [], [7], [6, 8], [], [10], [], [12], [11, 13], [], [15], [], [17], [16, 18], [], [20], [], [22], [21, 23], [], [25], [], [27], [26, 28], [4, 9, 14, 19, 24, 29]] (by kernel_rfl) (by kernel_rfl) ⟨?o0p, ?o1p, ?o2p, ?o3p, ?o4p, ?o5p, ?o6p, ?o7p, ?o8p, ?o9p, ?o10p, ?o11p, ?o12p, ?o13p, ?o14p, ?o15p, ?o16p, ?o17p, ?o18p, ?o19p, ?o20p, ?o21p, ?o22p, ?o23p, ?o24p, ?o25p, ?o26p, ?o27p, ?o28p, ?o29p, ?o30p, trivial⟩ ?_
 case o0p =>
  intro w' hb
  show wpList _ _ _ _ _ _
  go_wp2
  exact ⟨rfl, Below.refl _ _, rfl⟩
 case o1p =>
  intro w' hb v1 hv1
  obtain rfl : v1 = _ := hv1
  have c_a_0' := zzc hb c_a_0
  show wpList _ _ _ _ _ _
  simp only [Grow.dstOf, zz1, zz3, zz4, Act.put, zz5, zz6, zz7]
  go_wp2
  exact ⟨rfl, Below.refl _ _, rfl⟩
 case o2p =>
  intro w' hb
  show wpList _ _ _ _ _ _
  go_wp2
  exact ⟨rfl, Below.refl _ _, rfl⟩
 case o3p =>
  intro w' hb v1 hv1
  obtain rfl : v1 = _ := hv1
  have c_b_0' := zzc hb c_b_0
  show wpList _ _ _ _ _ _
  simp only [Grow.dstOf, zz1, zz2, zz3, zz4, Act.put, zz5, zz6, zz7]
  go_wp2
  exact ⟨rfl, Below.refl _ _, rfl⟩
 case o4p =>
  intro w' hb v1 hv1 v2 hv2
  obtain rfl : v1 = _ := hv1
  obtain rfl : v2 = _ := hv2
  show wpList _ _ _ _ _ _
  simp only [Grow.dstOf, zz1, zz2, zz3, zz4, Act.put, zz5, zz6, zz7]
  go_wp2
  exact ⟨rfl, Below.refl _ _, rfl⟩
 case o5p =>
  intro w' hb
  show wpList _ _ _ _ _ _
  go_wp2
  exact ⟨rfl, Below.refl _ _, rfl⟩
 case o6p =>
  intro w' hb v1 hv1
  obtain rfl : v1 = _ := hv1
  have c_a_1' := zzc hb c_a_1
  have c_a_2' := zzc hb c_a_2
  show wpList _ _ _ _ _ _
  simp only [Grow.dstOf, zz1, zz2, zz3, zz4, Act.put, zz5, zz6, zz7]
  go_wp2
  exact ⟨rfl, Below.refl _ _, rfl⟩
 case o7p =>
  intro w' hb
  show wpList _ _ _ _ _ _
  go_wp2
  exact ⟨rfl, Below.refl _ _, rfl⟩
 case o8p =>
  intro w' hb v1 hv1
  obtain rfl : v1 = _ := hv1
  have c_b_1' := zzc hb c_b_1
  have c_b_2' := zzc hb c_b_2
  show wpList _ _ _ _ _ _
  simp only [Grow.dstOf, zz1, zz2, zz3, zz4, Act.put, zz5, zz6, zz7]
  go_wp2
  exact ⟨rfl, Below.refl _ _, rfl⟩
 case o9p =>
  intro w' hb v1 hv1 v2 hv2
  obtain rfl : v1 = _ := hv1
  obtain rfl : v2 = _ := hv2
  show wpList _ _ _ _ _ _
  simp only [Grow.dstOf, zz1, zz2, zz3, zz4, Act.put, zz5, zz6, zz7]
  go_wp2_with fail
  refine (plus_is a1 b1 c1 HP.out.1 HFA.out.1 HFB.out.1 HFC.out.1 w' (HT0.out.ext (ext_trans HW.out hb))).mono ?_
  rintro e wz ⟨rfl, hbz⟩
  go_wp2
  exact ⟨rfl, hbz, rfl⟩
 case o10p =>
  intro w' hb
  show wpList _ _ _ _ _ _
  go_wp2
  exact ⟨rfl, Below.refl _ _, rfl⟩
 case o11p =>
  intro w' hb v1 hv1
  obtain rfl : v1 = _ := hv1
  have c_a_3' := zzc hb c_a_3
  have c_a_4' := zzc hb c_a_4
  show wpList _ _ _ _ _ _
  simp only [Grow.dstOf, zz1, zz2, zz3, zz4, Act.put, zz5, zz6, zz7]
  go_wp2
  exact ⟨rfl, Below.refl _ _, rfl⟩
 case o12p =>
  intro w' hb
  show wpList _ _ _ _ _ _
  go_wp2
  exact ⟨rfl, Below.refl _ _, rfl⟩
 case o13p =>
  intro w' hb v1 hv1
  obtain rfl : v1 = _ := hv1
  have c_b_3' := zzc hb c_b_3
  have c_b_4' := zzc hb c_b_4
  show wpList _ _ _ _ _ _
  simp only [Grow.dstOf, zz1, zz2, zz3, zz4, Act.put, zz5, zz6, zz7]
  go_wp2
  exact ⟨rfl, Below.refl _ _, rfl⟩
 case o14p =>
  intro w' hb v1 hv1 v2 hv2
  obtain rfl : v1 = _ := hv1
  obtain rfl : v2 = _ := hv2
  show wpList _ _ _ _ _ _
  simp only [Grow.dstOf, zz1, zz2, zz3, zz4, Act.put, zz5, zz6, zz7]
  go_wp2_with fail
  refine (plus_is a2 b2 c2 HP.out.2.1 HFA.out.2.1 HFB.out.2.1 HFC.out.2.1 w' (HT0.out.ext (ext_trans HW.out hb))).mono ?_
  rintro e wz ⟨rfl, hbz⟩
  go_wp2
  exact ⟨rfl, hbz, rfl⟩
 case o15p =>
  intro w' hb
  show wpList _ _ _ _ _ _
  go_wp2
  exact ⟨rfl, Below.refl _ _, rfl⟩
 case o16p =>
  intro w' hb v1 hv1
  obtain rfl : v1 = _ := hv1
  have c_a_5' := zzc hb c_a_5
  have c_a_6' := zzc hb c_a_6
  show wpList _ _ _ _ _ _
  simp only [Grow.dstOf, zz1, zz2, zz3, zz4, Act.put, zz5, zz6, zz7]
  go_wp2
  exact ⟨rfl, Below.refl _ _, rfl⟩
 case o17p =>
  intro w' hb
  show wpList _ _ _ _ _ _
  go_wp2
  exact ⟨rfl, Below.refl _ _, rfl⟩
 case o18p =>
  intro w' hb v1 hv1
  obtain rfl : v1 = _ := hv1
  have c_b_5' := zzc hb c_b_5
  have c_b_6' := zzc hb c_b_6
  show wpList _ _ _ _ _ _
  simp only [Grow.dstOf, zz1, zz2, zz3, zz4, Act.put, zz5, zz6, zz7]
  go_wp2
  exact ⟨rfl, Below.refl _ _, rfl⟩
 case o19p =>
  intro w' hb v1 hv1 v2 hv2
  obtain rfl : v1 = _ := hv1
  obtain rfl : v2 = _ := hv2
  show wpList _ _ _ _ _ _
  simp only [Grow.dstOf, zz1, zz2, zz3, zz4, Act.put, zz5, zz6, zz7]
  go_wp2_with fail
  refine (plus_is a3 b3 c3 HP.out.2.2.1 HFA.out.2.2.1 HFB.out.2.2.1 HFC.out.2.2.1 w' (HT0.out.ext (ext_trans HW.out hb))).mono ?_
  rintro e wz ⟨rfl, hbz⟩
  go_wp2
  exact ⟨rfl, hbz, rfl⟩
 case o20p =>
  intro w' hb
  show wpList _ _ _ _ _ _
  go_wp2
  exact ⟨rfl, Below.refl _ _, rfl⟩
 case o21p =>
  intro w' hb v1 hv1
  obtain rfl : v1 = _ := hv1
  have c_a_7' := zzc hb c_a_7
  have c_a_8' := zzc hb c_a_8
  show wpList _ _ _ _ _ _
  simp only [Grow.dstOf, zz1, zz2, zz3, zz4, Act.put, zz5, zz6, zz7]
  go_wp2
  exact ⟨rfl, Below.refl _ _, rfl⟩
 case o22p =>
  intro w' hb
  show wpList _ _ _ _ _ _
  go_wp2
  exact ⟨rfl, Below.refl _ _, rfl⟩
 case o23p =>
  intro w' hb v1 hv1
  obtain rfl : v1 = _ := hv1
  have c_b_7' := zzc hb c_b_7
  have c_b_8' := zzc hb c_b_8
  show wpList _ _ _ _ _ _
  simp only [Grow.dstOf, zz1, zz2, zz3, zz4, Act.put, zz5, zz6, zz7]
  go_wp2
  exact ⟨rfl, Below.refl _ _, rfl⟩
 case o24p =>
  intro w' hb v1 hv1 v2 hv2
  obtain rfl : v1 = _ := hv1
  obtain rfl : v2 = _ := hv2
  show wpList _ _ _ _ _ _
  simp only [Grow.dstOf, zz1, zz2, zz3, zz4, Act.put, zz5, zz6, zz7]
  go_wp2_with fail
  refine (plus_is a4 b4 c4 HP.out.2.2.2.1 HFA.out.2.2.2.1 HFB.out.2.2.2.1 HFC.out.2.2.2.1 w' (HT0.out.ext (ext_trans HW.out hb))).mono ?_
  rintro e wz ⟨rfl, hbz⟩
  go_wp2
  exact ⟨rfl, hbz, rfl⟩
 case o25p =>
  intro w' hb
  show wpList _ _ _ _ _ _
  go_wp2
  exact ⟨rfl, Below.refl _ _, rfl⟩
 case o26p =>
  intro w' hb v1 hv1
  obtain rfl : v1 = _ := hv1
  have c_a_9' := zzc hb c_a_9
  have c_a_10' := zzc hb c_a_10
  show wpList _ _ _ _ _ _
  simp only [Grow.dstOf, zz1, zz2, zz3, zz4, Act.put, zz5, zz6, zz7]
  go_wp2
  exact ⟨rfl, Below.refl _ _, rfl⟩
 case o27p =>
  intro w' hb
  show wpList _ _ _ _ _ _
  go_wp2
  exact ⟨rfl, Below.refl _ _, rfl⟩
 case o28p =>
  intro w' hb v1 hv1
  obtain rfl : v1 = _ := hv1
  have c_b_9' := zzc hb c_b_9
  have c_b_10' := zzc hb c_b_10
  show wpList _ _ _ _ _ _
  simp only [Grow.dstOf, zz1, zz2, zz3, zz4, Act.put, zz5, zz6, zz7]
  go_wp2
  exact ⟨rfl, Below.refl _ _, rfl⟩
 case o29p =>
  intro w' hb v1 hv1 v2 hv2
  obtain rfl : v1 = _ := hv1
  obtain rfl : v2 = _ := hv2
  show wpList _ _ _ _ _ _
  simp only [Grow.dstOf, zz1, zz2, zz3, zz4, Act.put, zz5, zz6, zz7]
  go_wp2_with fail
  refine (plus_is a5 b5 c5 HP.out.2.2.2.2 HFA.out.2.2.2.2 HFB.out.2.2.2.2 HFC.out.2.2.2.2 w' (HT0.out.ext (ext_trans HW.out hb))).mono ?_
  rintro e wz ⟨rfl, hbz⟩
  go_wp2
  exact ⟨rfl, hbz, rfl⟩
 case o30p =>
  intro w' hb v1 hv1 v2 hv2 v3 hv3 v4 hv4 v5 hv5 v6 hv6
  obtain rfl : v1 = _ := hv1
  obtain rfl : v2 = _ := hv2
  obtain rfl : v3 = _ := hv3
  obtain rfl : v4 = _ := hv4
  obtain rfl : v5 = _ := hv5
  obtain rfl : v6 = _ := hv6
  show wpList _ _ _ _ _ _
  simp only [Grow.dstOf, zz1, zz2, zz3, zz4, Act.put, zz5, zz6, zz7]
  go_wp2
  exact ⟨congrArg Value.agg HC.out, Below.refl _ _, rfl⟩
 intro w2' hbz u0 hu0 u1 hu1 u2 hu2 u3 hu3 u4 hu4 u5 hu5 u6 hu6 u7 hu7 u8 hu8 u9 hu9 u10 hu10 u11 hu11 u12 hu12 u13 hu13 u14 hu14 u15 hu15 u16 hu16 u17 hu17 u18 hu18 u19 hu19 u20 hu20 u21 hu21 u22 hu22 u23 hu23 u24 hu24 u25 hu25 u26 hu26 u27 hu27 u28 hu28 u29 hu29 u30 hu30
 obtain rfl : u30 = _ := hu30
 clear hu0 hu1 hu2 hu3 hu4 hu5 hu6 hu7 hu8 hu9 hu10 hu11 hu12 hu13 hu14 hu15 hu16 hu17 hu18 hu19 hu20 hu21 hu22 hu23 hu24 hu25 hu26 hu27 hu28 hu29
 replace HB_a := Lib.hid (HB_a.out.ext hbz)
 replace HB_b := Lib.hid (HB_b.out.ext hbz)
 replace HR_o := Lib.hid (HR_o.out.ext hbz)
 replace HW := Lib.hid (ext_trans HW.out hbz)
 clear c_a_0 c_a_1 c_a_2 c_a_3 c_a_4 c_a_5 c_a_6 c_a_7 c_a_8 c_a_9 c_a_10 c_b_0 c_b_1 c_b_2 c_b_3 c_b_4 c_b_5 c_b_6 c_b_7 c_b_8 c_b_9 c_b_10
 clear hbz
 show wpList _ _ _ _ _ _
 simp only [Act.put, zz5, zz6, zz7]
 have hi : (Tryz.prog.info? 47).map (·.size) = some C.size := by rw [← HC.out]; exact (by kernel_rfl : (Tryz.prog.info? 47).map (·.size) = some 11)
 have hsz : C.size = 11 := by rw [← HC.out]; rfl
 have hsc := store_cells (P := Tryz.prog) (ty := 47) HR_o.out hi (by rw [← HC.out]; rfl) (by rw [← HC.out]; simp [Value.oneCell'])
 have hbw := below_setRow HW.out (show w.heap.size ≤ (w.heap.size + 2) by omega) C
 have HFIN := Lib.hid (And.intro (HR_o.out.row C) (And.intro hi hbw))
 clear hi hbw
 go_wp2
 exact bodyPost_ret (v := .agg C) (results_cell_row rfl _ _ _ _ _ _ _ rfl HFIN.out.1 Tryz.underlying47 rfl HFIN.out.2.1) rfl ⟨by rw [HC.out], HFIN.out.2.2⟩
end Nt
end Go.Proofs.YtilolnjbpokdnaaGreatDoor
