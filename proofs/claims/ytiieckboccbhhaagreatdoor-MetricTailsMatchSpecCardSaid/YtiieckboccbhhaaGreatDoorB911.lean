/- Plain: fractions that are not in lowest terms: a sign, a numerator and a denominator. No program stands in it. Ratio of the reference's fractions. Printed by gen_frq.py. -/
import Derived.Test.YtiieckboccbhhaaGreatDoorB909
import Derived.Test.YtiieckboccbhhaaGreatDoorB910
import Derived.Test.YtiieckboccbhhaaGreatDoorB902
import Derived.Test.YtiieckboccbhhaaGreatDoorB904
import Derived.Test.YtiieckboccbhhaaGreatDoorB900
import Derived.Test.YtiieckboccbhhaaGreatDoorB901
import Derived.Test.YtiieckboccbhhaaGreatDoorB912
import Derived.Test.YtiieckboccbhhaaGreatDoorProg
import Derived.Test.YtiieckboccbhhaaGreatDoorB903
import Derived.Test.YtiieckboccbhhaaGreatDoorB905
import Derived.Test.YtiieckboccbhhaaGreatDoorB906
import Derived.Test.YtiieckboccbhhaaGreatDoorB907
import Derived.Test.YtiieckboccbhhaaGreatDoorB908
import Derived.Test.YtiieckboccbhhaaGreatDoorB913
import Derived.Test.YtiieckboccbhhaaGreatDoorB914
import Derived.Test.YtiieckboccbhhaaGreatDoorB915
import Derived.Test.YtiieckboccbhhaaGreatDoorB916
import Derived.Test.YtiieckboccbhhaaGreatDoorB917
import Derived.Test.YtiieckboccbhhaaGreatDoorB918
import Derived.Test.YtiieckboccbhhaaGreatDoorB919
import Derived.Test.YtiieckboccbhhaaGreatDoorB920
import Derived.Test.YtiieckboccbhhaaGreatDoorB921
import Derived.Test.YtiieckboccbhhaaGreatDoorShelf
import Derived.Test.YtiieckboccbhhaaGreatDoorB922
import Derived.Test.YtiieckboccbhhaaGreatDoorB923
import Derived.Test.YtiieckboccbhhaaGreatDoorB924
import Derived.Test.YtiieckboccbhhaaGreatDoorB925
import Derived.Test.YtiieckboccbhhaaGreatDoorB927
import Derived.Test.YtiieckboccbhhaaGreatDoorB928
import Derived.Test.YtiieckboccbhhaaGreatDoorB929
namespace Go.Proofs.YtiieckboccbhhaaGreatDoor
namespace Nt
open _root_.Go.Proofs.YtiieckboccbhhaaGreatDoor.Nm (sgn)
theorem fq_norm (b : Bool) (n d : Nat) (hd : d ≠ 0) : fq b n d = Rat.normalize (sgn b n) d hd := by
  unfold fq
  rw [Rat.normalize_eq_mkRat, Rat.mkRat_eq_div]
end Nt
end Go.Proofs.YtiieckboccbhhaaGreatDoor
namespace Go.Proofs.YtiieckboccbhhaaGreatDoor
open Go.RowKit
namespace Nt
open _root_.Go.Proofs.YtiieckboccbhhaaGreatDoor.Nm (sgn outN outD outF decS AnsPost)

def TP.rw (N : Nat) (A : Array Value) (ty : TypeId) : TP := ⟨fun w v => ∃ g, v = .pointer (some ⟨g, 0, none⟩) ∧ N ≤ g ∧ RH w g A ty, fun _ _ _ hb h => by obtain ⟨g, h1, h2, h3⟩ := h; exact ⟨g, h1, h2, h3.ext hb⟩⟩
set_option maxRecDepth 100000 in
set_option maxHeartbeats 16000000 in
theorem fratio_at (t : F3) (n d : Nat) (hd : 0 < d) (l1 : wlen n ≤ 100000000) (l2 : wlen d ≤ 100000000) (w : World) (hx : FX w t n d) (ht : Tab w) : Calls Tryz.prog 21 #[f3V t] w (AnsPost w (outN (fq t.b n d)) (outD (fq t.b n d)) (outF (fq t.b n d))) := by
 have H0a := Lib.hid hx
 have HO := Lib.hid (out_lowest t.b n d (by omega))
 clear hx
 have hgc : n.gcd d = d.gcd n := Nat.gcd_comm n d
 rw [hgc, ← fq_norm] at HO
 clear hgc
 generalize fq t.b n d = q at *
 obtain ⟨g, hg⟩ : ∃ g, d.gcd n = g := ⟨_, rfl⟩
 rw [hg] at HO
 obtain ⟨p, hp⟩ : ∃ p, n / g = p := ⟨_, rfl⟩
 obtain ⟨r, hr⟩ : ∃ r, d / g = r := ⟨_, rfl⟩
 rw [hp, hr] at HO
 have l3 : wlen p ≤ 100000000 := by rw [← hp]; exact Nat.le_trans (wlen_mono (Nat.div_le_self _ _)) l1
 have l4 : wlen r ≤ 100000000 := by rw [← hr]; exact Nat.le_trans (wlen_mono (Nat.div_le_self _ _)) l2
 have HGP := Lib.hid (And.intro hg (And.intro hp hr))
 clear hg hp hr
 go_enter Tryz.func21, Tryz.ntmps21
 have HT0 := Lib.hid ht
 clear ht
 go_upto_region 1 with (fail)
 refine wp_frs2 fun w1' hbz hR0 hR1 => ?_
 have HR_a : Hid (RH w1' w.heap.size #[.bool t.b, .slice t.a1 t.n1 t.c1, .slice t.a2 t.n2 t.c2] 48) := Lib.hid hR0
 have HR_o : Hid (RH w1' (w.heap.size + 1) #[.string ⟨#[]⟩, .string ⟨#[]⟩] 23) := Lib.hid hR1
 have HW := Lib.hid hbz
 clear hbz hR0 hR1
 have Ha : Hid (FX w1' t n d) := Lib.hid (H0a.out.ext HW.out)
 clear H0a
 obtain ⟨c_a_0, c_a_1, c_a_2⟩ := zs3 HR_a.out
 go_wp2_with fail
 refine (low_at t n d g p r hd HGP.out.1 HGP.out.2.1 HGP.out.2.2 l1 l2 w1' Ha.out).mono ?_
 rintro e w2' ⟨s, rfl, hsb, hx2, hbz⟩
 have HSB := Lib.hid hsb
 clear hsb
 replace HR_a := Lib.hid (HR_a.out.ext hbz)
 replace HR_o := Lib.hid (HR_o.out.ext hbz)
 replace Ha := Lib.hid (Ha.out.ext hbz)
 replace HW := Lib.hid (ext_trans HW.out hbz)
 clear c_a_0 c_a_1 c_a_2
 clear hbz
 have HX : Hid (FX w2' s p r) := Lib.hid hx2
 clear hx2
 clear HR_a
 clear Ha
 go_upto_region 2 with (fail)
 refine wp_frs1 fun w3' hbz hR0 => ?_
 have lt_o_x : (w.heap.size + 1) < w2'.heap.size := HR_o.out.lt
 have le_x : w.heap.size ≤ w2'.heap.size := HW.out.size
 replace HR_o := Lib.hid (HR_o.out.ext hbz)
 replace HX := Lib.hid (HX.out.ext hbz)
 replace HW := Lib.hid (ext_trans HW.out hbz)
 clear hbz
 have HR_x : Hid (RH w3' w2'.heap.size #[.bool s.b, .slice s.a1 s.n1 s.c1, .slice s.a2 s.n2 s.c2] 48) := Lib.hid hR0
 clear hR0
 generalize w2'.heap.size = b_x at *
 obtain ⟨c_x_0, c_x_1, c_x_2⟩ := zs3 HR_x.out
 refine Grow.wp_region_grow 8 [TP.eq (.pointer (some ⟨b_x, 1, none⟩)), TP.eq (.slice s.a1 s.n1 s.c1), TP.eq (.string (strOf (decS p))), TP.eq (.pointer (some ⟨b_x, 2, none⟩)), TP.eq (.slice s.a2 s.n2 s.c2), TP.eq (.string (strOf (decS r))), TP.eq (.agg #[.string (strOf (decS p)), .string (strOf (decS r))]), TP.rw w3'.heap.size #[.string ⟨#[]⟩, .string ⟨#[]⟩] 23] [[], [0], [1], [], [3], [4], [2, 5], []] (by kernel_rfl) (by kernel_rfl) ⟨?o0g, ?o1g, ?o2g, ?o3g, ?o4g, ?o5g, ?o6g, ?o7g, trivial⟩ ?_
 case o0g | o3g =>
  intro w' hb
  show wpList _ _ _ _ _ _
  go_wp2
  exact ⟨rfl, Below.refl _ _, rfl⟩
 case o1g =>
  intro w' hb v1 hv1
  obtain rfl : v1 = _ := hv1
  have c_x_1' := zzc hb c_x_1
  show wpList _ _ _ _ _ _
  simp only [Grow.dstOf, zz1, zz3, zz4, Act.put, zz5, zz6, zz7]
  go_wp2
  exact ⟨rfl, Below.refl _ _, rfl⟩
 case o2g =>
  intro w' hb v1 hv1
  obtain rfl : v1 = _ := hv1
  show wpList _ _ _ _ _ _
  simp only [Grow.dstOf, zz1, zz2, zz3, zz4, Act.put, zz5, zz6, zz7]
  go_wp2_with fail
  refine (text_at p _ w' (HX.out.num.ext hb) (by omega) (HT0.out.ext (ext_trans HW.out hb))).mono ?_
  rintro e wz ⟨rfl, hbz⟩
  go_wp2
  exact ⟨rfl, hbz, rfl⟩
 case o4g =>
  intro w' hb v1 hv1
  obtain rfl : v1 = _ := hv1
  have c_x_2' := zzc hb c_x_2
  show wpList _ _ _ _ _ _
  simp only [Grow.dstOf, zz1, zz2, zz3, zz4, Act.put, zz5, zz6, zz7]
  go_wp2
  exact ⟨rfl, Below.refl _ _, rfl⟩
 case o5g =>
  intro w' hb v1 hv1
  obtain rfl : v1 = _ := hv1
  show wpList _ _ _ _ _ _
  simp only [Grow.dstOf, zz1, zz2, zz3, zz4, Act.put, zz5, zz6, zz7]
  go_wp2_with fail
  refine (text_at r _ w' (HX.out.den.ext hb) (by omega) (HT0.out.ext (ext_trans HW.out hb))).mono ?_
  rintro e wz ⟨rfl, hbz⟩
  go_wp2
  exact ⟨rfl, hbz, rfl⟩
 case o6g =>
  intro w' hb v1 hv1 v2 hv2
  obtain rfl : v1 = _ := hv1
  obtain rfl : v2 = _ := hv2
  show wpList _ _ _ _ _ _
  simp only [Grow.dstOf, zz1, zz2, zz3, zz4, Act.put, zz5, zz6, zz7]
  go_wp2
  exact ⟨rfl, Below.refl _ _, rfl⟩
 case o7g =>
  intro w' hb
  show wpList _ _ _ _ _ _
  go_wp2
  exact ⟨⟨_, rfl, hb.size, RH.new _ _ _⟩, ext_alloc _ _, rfl⟩
 intro w4' hbz u0 hu0 u1 hu1 u2 hu2 u3 hu3 u4 hu4 u5 hu5 u6 hu6 u7 hu7
 obtain rfl : u6 = _ := hu6
 have hg9 : ∃ g, u7 = .pointer (some ⟨g, 0, none⟩) ∧ w3'.heap.size ≤ g ∧ RH w4' g #[.string ⟨#[]⟩, .string ⟨#[]⟩] 23 := hu7
 clear hu0 hu1 hu2 hu3 hu4 hu5 hu7
 obtain ⟨b_r, rfl, hgY, hRg⟩ := hg9
 have lt_o_r : (w.heap.size + 1) < b_r := Nat.lt_of_lt_of_le HR_o.out.lt hgY
 have lt_x_r : b_x < b_r := Nat.lt_of_lt_of_le HR_x.out.lt hgY
 have le_r : w.heap.size ≤ b_r := Nat.le_trans HW.out.size hgY
 clear hgY
 replace HR_o := Lib.hid (HR_o.out.ext hbz)
 replace HR_x := Lib.hid (HR_x.out.ext hbz)
 replace HX := Lib.hid (HX.out.ext hbz)
 replace HW := Lib.hid (ext_trans HW.out hbz)
 clear c_x_0 c_x_1 c_x_2
 clear hbz
 have HR_r : Hid (RH w4' b_r #[.string ⟨#[]⟩, .string ⟨#[]⟩] 23) := Lib.hid hRg
 clear hRg
 clear HX
 show wpList _ _ _ _ _ _
 simp only [Act.put, zz5, zz6, zz7]
 obtain ⟨c_r_0, c_r_1⟩ := zs2 HR_r.out
 have f_r_0 := HR_r.out.fre 0
 have f_r_1 := HR_r.out.fre 1
 go_upto_region 3 with (fail)
 obtain ⟨w5', hX⟩ : ∃ Z9, Z9 = ((w4'.setCell ⟨b_r, 0, none⟩ (.string (strOf (decS p)))).setCell ⟨b_r, 1, none⟩ (.string (strOf (decS r)))) := ⟨_, rfl⟩
 rw [← hX]
 have n_r : Hid (RH w5' b_r #[.string (strOf (decS p)), .string (strOf (decS r))] 23) := by rw [hX]; exact Lib.hid (((HR_r.out).set 0 (.string (strOf (decS p)))).set 1 (.string (strOf (decS r))))
 have n_o : Hid (RH w5' (w.heap.size + 1) #[.string ⟨#[]⟩, .string ⟨#[]⟩] 23) := by rw [hX]; exact Lib.hid (zzo (zzo (HR_o.out) (by omega)) (by omega))
 have n_x : Hid (RH w5' b_x #[.bool s.b, .slice s.a1 s.n1 s.c1, .slice s.a2 s.n2 s.c2] 48) := by rw [hX]; exact Lib.hid (zzo (zzo (HR_x.out) (by omega)) (by omega))
 have HK_ : ∀ p : Addr, p.block ≠ b_r → w5'.cell? p = w4'.cell? p := fun p hp => by rw [hX]; exact (cs_other' hp).trans (cs_other' hp)
 have nW : Hid (Below w.heap.size w w5') := by rw [hX]; exact Lib.hid (zzw (zzw (HW.out) (by omega)) (by omega))
 clear c_r_0 c_r_1 f_r_0 f_r_1
 clear hX HK_ HW HR_o HR_x HR_r 
 have HR_o := n_o; clear n_o
 have HR_x := n_x; clear n_x
 have HR_r := n_r; clear n_r
 have HW := nW; clear nW
 have hsn : (strOf (decS p)).size = (decS p).length := strOf_size _
 have hsd : (strOf (decS r)).size = (decS r).length := strOf_size _
 obtain ⟨c_r_0, c_r_1⟩ := zs2 HR_r.out
 obtain ⟨c_x_0, -, -⟩ := zs3 HR_x.out
 by_cases hbig : 4000 < (decS p).length ∨ 4000 < (decS r).length
 ·have HP := Lib.hid (HO.out.1 hbig)
  clear HO
  by_cases hb1 : 4000 < (decS p).length
  ·clear hbig
   obtain ⟨c_o_0, c_o_1⟩ := zs2 HR_o.out
   have f_o_0 := HR_o.out.fre 0
   have f_o_1 := HR_o.out.fre 1
   go_wp2
   obtain ⟨w6', hX⟩ : ∃ Z9, Z9 = ((w5'.setCell ⟨(w.heap.size + 1), 0, none⟩ (.string ⟨#[]⟩)).setCell ⟨(w.heap.size + 1), 1, none⟩ (.string ⟨#[]⟩)) := ⟨_, rfl⟩
   rw [← hX]
   have n_o : Hid (RH w6' (w.heap.size + 1) #[.string ⟨#[]⟩, .string ⟨#[]⟩] 23) := by rw [hX]; exact Lib.hid (((HR_o.out).set 0 (.string ⟨#[]⟩)).set 1 (.string ⟨#[]⟩))
   have n_x : Hid (RH w6' b_x #[.bool s.b, .slice s.a1 s.n1 s.c1, .slice s.a2 s.n2 s.c2] 48) := by rw [hX]; exact Lib.hid (zzo (zzo (HR_x.out) (by omega)) (by omega))
   have n_r : Hid (RH w6' b_r #[.string (strOf (decS p)), .string (strOf (decS r))] 23) := by rw [hX]; exact Lib.hid (zzo (zzo (HR_r.out) (by omega)) (by omega))
   have HK_ : ∀ p : Addr, p.block ≠ (w.heap.size + 1) → w6'.cell? p = w5'.cell? p := fun p hp => by rw [hX]; exact (cs_other' hp).trans (cs_other' hp)
   have nW : Hid (Below w.heap.size w w6') := by rw [hX]; exact Lib.hid (zzw (zzw (HW.out) (by omega)) (by omega))
   clear c_r_0 c_r_1 c_x_0 c_o_0 c_o_1 f_o_0 f_o_1
   clear hX HK_ HW HR_o HR_x HR_r 
   have HR_o := n_o; clear n_o
   have HR_x := n_x; clear n_x
   have HR_r := n_r; clear n_r
   have HW := nW; clear nW
   refine bodyPost_ret (v := .tuple #[.agg #[.string ⟨#[]⟩, .string ⟨#[]⟩], .int .i64 2]) ?_ rfl ⟨by rw [HP.out.1, HP.out.2.1, HP.out.2.2], HW.out⟩
   have hld := run_loadVar_row (P := Tryz.prog) _ _ _ 23 _ _ _ HR_o.out Tryz.underlying23 rfl (by kernel_rfl : (Tryz.prog.info? 23).map (·.size) = some 2)
   rw [results_cell_tmp rfl]
   simp [asAddr, Result.andThen, hld]
  ·have hb2 : 4000 < (decS r).length := by omega
   clear hbig
   obtain ⟨c_o_0, c_o_1⟩ := zs2 HR_o.out
   have f_o_0 := HR_o.out.fre 0
   have f_o_1 := HR_o.out.fre 1
   go_wp2
   obtain ⟨w6', hX⟩ : ∃ Z9, Z9 = ((w5'.setCell ⟨(w.heap.size + 1), 0, none⟩ (.string ⟨#[]⟩)).setCell ⟨(w.heap.size + 1), 1, none⟩ (.string ⟨#[]⟩)) := ⟨_, rfl⟩
   rw [← hX]
   have n_o : Hid (RH w6' (w.heap.size + 1) #[.string ⟨#[]⟩, .string ⟨#[]⟩] 23) := by rw [hX]; exact Lib.hid (((HR_o.out).set 0 (.string ⟨#[]⟩)).set 1 (.string ⟨#[]⟩))
   have n_x : Hid (RH w6' b_x #[.bool s.b, .slice s.a1 s.n1 s.c1, .slice s.a2 s.n2 s.c2] 48) := by rw [hX]; exact Lib.hid (zzo (zzo (HR_x.out) (by omega)) (by omega))
   have n_r : Hid (RH w6' b_r #[.string (strOf (decS p)), .string (strOf (decS r))] 23) := by rw [hX]; exact Lib.hid (zzo (zzo (HR_r.out) (by omega)) (by omega))
   have HK_ : ∀ p : Addr, p.block ≠ (w.heap.size + 1) → w6'.cell? p = w5'.cell? p := fun p hp => by rw [hX]; exact (cs_other' hp).trans (cs_other' hp)
   have nW : Hid (Below w.heap.size w w6') := by rw [hX]; exact Lib.hid (zzw (zzw (HW.out) (by omega)) (by omega))
   clear c_r_0 c_r_1 c_x_0 c_o_0 c_o_1 f_o_0 f_o_1
   clear hX HK_ HW HR_o HR_x HR_r 
   have HR_o := n_o; clear n_o
   have HR_x := n_x; clear n_x
   have HR_r := n_r; clear n_r
   have HW := nW; clear nW
   refine bodyPost_ret (v := .tuple #[.agg #[.string ⟨#[]⟩, .string ⟨#[]⟩], .int .i64 2]) ?_ rfl ⟨by rw [HP.out.1, HP.out.2.1, HP.out.2.2], HW.out⟩
   have hld := run_loadVar_row (P := Tryz.prog) _ _ _ 23 _ _ _ HR_o.out Tryz.underlying23 rfl (by kernel_rfl : (Tryz.prog.info? 23).map (·.size) = some 2)
   rw [results_cell_tmp rfl]
   simp [asAddr, Result.andThen, hld]
 ·have HP := Lib.hid (HO.out.2 hbig)
  have hb1 : (decS p).length ≤ 4000 := by omega
  have hb2 : (decS r).length ≤ 4000 := by omega
  clear hbig HO
  by_cases hs : s.b = true
  ·have HPN : Hid (outN q = strOf (45 :: decS p)) := Lib.hid (by have h := HP.out.1; rw [← HSB.out, hs, if_pos rfl] at h; exact h)
   have HC45 := Lib.hid (cat45' (decS p))
   have f_r_0 := HR_r.out.fre 0
   have f_r_1 := HR_r.out.fre 1
   go_upto_region 7 with (fail)
   rw [HC45.out]
   obtain ⟨w6', hX⟩ : ∃ Z9, Z9 = (w5'.setCell ⟨b_r, 0, none⟩ (.string (strOf (45 :: decS p)))) := ⟨_, rfl⟩
   rw [← hX]
   have n_r : Hid (RH w6' b_r #[.string (strOf (45 :: decS p)), .string (strOf (decS r))] 23) := by rw [hX]; exact Lib.hid ((HR_r.out).set 0 (.string (strOf (45 :: decS p))))
   have n_o : Hid (RH w6' (w.heap.size + 1) #[.string ⟨#[]⟩, .string ⟨#[]⟩] 23) := by rw [hX]; exact Lib.hid (zzo (HR_o.out) (by omega))
   have n_x : Hid (RH w6' b_x #[.bool s.b, .slice s.a1 s.n1 s.c1, .slice s.a2 s.n2 s.c2] 48) := by rw [hX]; exact Lib.hid (zzo (HR_x.out) (by omega))
   have HK_ : ∀ p : Addr, p.block ≠ b_r → w6'.cell? p = w5'.cell? p := fun p hp => by rw [hX]; exact cs_other' hp
   have nW : Hid (Below w.heap.size w w6') := by rw [hX]; exact Lib.hid (zzw (HW.out) (by omega))
   clear c_r_0 c_r_1 c_x_0 f_r_0 f_r_1
   clear hX HK_ HW HR_o HR_x HR_r 
   have HR_o := n_o; clear n_o
   have HR_x := n_x; clear n_x
   have HR_r := n_r; clear n_r
   have HW := nW; clear nW
   obtain ⟨c_r_0, c_r_1⟩ := zs2 HR_r.out
   obtain ⟨c_o_0, c_o_1⟩ := zs2 HR_o.out
   have f_o_0 := HR_o.out.fre 0
   have f_o_1 := HR_o.out.fre 1
   go_wp2
   obtain ⟨w7', hX⟩ : ∃ Z9, Z9 = ((w6'.setCell ⟨(w.heap.size + 1), 0, none⟩ (.string (strOf (45 :: decS p)))).setCell ⟨(w.heap.size + 1), 1, none⟩ (.string (strOf (decS r)))) := ⟨_, rfl⟩
   rw [← hX]
   have n_o : Hid (RH w7' (w.heap.size + 1) #[.string (strOf (45 :: decS p)), .string (strOf (decS r))] 23) := by rw [hX]; exact Lib.hid (((HR_o.out).set 0 (.string (strOf (45 :: decS p)))).set 1 (.string (strOf (decS r))))
   have n_x : Hid (RH w7' b_x #[.bool s.b, .slice s.a1 s.n1 s.c1, .slice s.a2 s.n2 s.c2] 48) := by rw [hX]; exact Lib.hid (zzo (zzo (HR_x.out) (by omega)) (by omega))
   have n_r : Hid (RH w7' b_r #[.string (strOf (45 :: decS p)), .string (strOf (decS r))] 23) := by rw [hX]; exact Lib.hid (zzo (zzo (HR_r.out) (by omega)) (by omega))
   have HK_ : ∀ p : Addr, p.block ≠ (w.heap.size + 1) → w7'.cell? p = w6'.cell? p := fun p hp => by rw [hX]; exact (cs_other' hp).trans (cs_other' hp)
   have nW : Hid (Below w.heap.size w w7') := by rw [hX]; exact Lib.hid (zzw (zzw (HW.out) (by omega)) (by omega))
   clear c_r_0 c_r_1 c_o_0 c_o_1 f_o_0 f_o_1
   clear hX HK_ HW HR_o HR_x HR_r 
   have HR_o := n_o; clear n_o
   have HR_x := n_x; clear n_x
   have HR_r := n_r; clear n_r
   have HW := nW; clear nW
   refine bodyPost_ret (v := .tuple #[.agg #[.string (strOf (45 :: decS p)), .string (strOf (decS r))], .int .i64 0]) ?_ rfl ⟨by rw [HPN.out, HP.out.2.1, HP.out.2.2], HW.out⟩
   have hld := run_loadVar_row (P := Tryz.prog) _ _ _ 23 _ _ _ HR_o.out Tryz.underlying23 rfl (by kernel_rfl : (Tryz.prog.info? 23).map (·.size) = some 2)
   rw [results_cell_tmp rfl]
   simp [asAddr, Result.andThen, hld]
  ·have hs' : s.b = false := by simpa using hs
   have HPN : Hid (outN q = strOf (decS p)) := Lib.hid (by have h := HP.out.1; rw [← HSB.out, hs'] at h; exact h)
   clear hs
   obtain ⟨c_o_0, c_o_1⟩ := zs2 HR_o.out
   have f_o_0 := HR_o.out.fre 0
   have f_o_1 := HR_o.out.fre 1
   go_wp2
   obtain ⟨w6', hX⟩ : ∃ Z9, Z9 = ((w5'.setCell ⟨(w.heap.size + 1), 0, none⟩ (.string (strOf (decS p)))).setCell ⟨(w.heap.size + 1), 1, none⟩ (.string (strOf (decS r)))) := ⟨_, rfl⟩
   rw [← hX]
   have n_o : Hid (RH w6' (w.heap.size + 1) #[.string (strOf (decS p)), .string (strOf (decS r))] 23) := by rw [hX]; exact Lib.hid (((HR_o.out).set 0 (.string (strOf (decS p)))).set 1 (.string (strOf (decS r))))
   have n_x : Hid (RH w6' b_x #[.bool s.b, .slice s.a1 s.n1 s.c1, .slice s.a2 s.n2 s.c2] 48) := by rw [hX]; exact Lib.hid (zzo (zzo (HR_x.out) (by omega)) (by omega))
   have n_r : Hid (RH w6' b_r #[.string (strOf (decS p)), .string (strOf (decS r))] 23) := by rw [hX]; exact Lib.hid (zzo (zzo (HR_r.out) (by omega)) (by omega))
   have HK_ : ∀ p : Addr, p.block ≠ (w.heap.size + 1) → w6'.cell? p = w5'.cell? p := fun p hp => by rw [hX]; exact (cs_other' hp).trans (cs_other' hp)
   have nW : Hid (Below w.heap.size w w6') := by rw [hX]; exact Lib.hid (zzw (zzw (HW.out) (by omega)) (by omega))
   clear c_r_0 c_r_1 c_x_0 c_o_0 c_o_1 f_o_0 f_o_1
   clear hX HK_ HW HR_o HR_x HR_r 
   have HR_o := n_o; clear n_o
   have HR_x := n_x; clear n_x
   have HR_r := n_r; clear n_r
   have HW := nW; clear nW
   refine bodyPost_ret (v := .tuple #[.agg #[.string (strOf (decS p)), .string (strOf (decS r))], .int .i64 0]) ?_ rfl ⟨by rw [HPN.out, HP.out.2.1, HP.out.2.2], HW.out⟩
   have hld := run_loadVar_row (P := Tryz.prog) _ _ _ 23 _ _ _ HR_o.out Tryz.underlying23 rfl (by kernel_rfl : (Tryz.prog.info? 23).map (·.size) = some 2)
   rw [results_cell_tmp rfl]
   simp [asAddr, Result.andThen, hld]
end Nt
end Go.Proofs.YtiieckboccbhhaaGreatDoor
