/- Methods of the reference's fractions. Printed by gen_frac.py. Lists of whole fractions of the reference. Printed by gen_frl.py. Lists of whole fractions of the reference. Printed by gen_frl.py. -/
import Derived.Test.YtiieckboccbhhaaGreatDoorB928
import Derived.Test.YtiieckboccbhhaaGreatDoorB900
import Derived.Test.YtiieckboccbhhaaGreatDoorB904
import Derived.Test.YtiieckboccbhhaaGreatDoorB923
namespace Go.Proofs.YtiieckboccbhhaaGreatDoor
open Go.RowKit
namespace Nt
set_option maxRecDepth 100000 in
set_option maxHeartbeats 16000000 in
theorem fwhole_at (z : Int) (h1 : -9223372036854775808 < z) (h2 : z ≤ 9223372036854775807) (w : World) : Calls Tryz.prog 30 #[.int .i64 z] w (FcPost w (decide (z < 0)) z.natAbs 1) := by
 go_enter Tryz.func30, Tryz.ntmps30
 go_upto_region 1 with (fail)
 refine wp_frs1 fun w1' hbz hR0 => ?_
 have HR_o : Hid (RH w1' w.heap.size #[.bool false, .slice none 0 0, .slice none 0 0] 48) := Lib.hid hR0
 have HW := Lib.hid hbz
 clear hbz hR0
 by_cases hz : z < 0
 ·obtain ⟨m, hm⟩ : ∃ m : Nat, z.natAbs = m := ⟨_, rfl⟩
  have hneg : -z = (m : Int) := by omega
  have hw1 : IntKind.i64.wrap (-z) = (m : Int) := by rw [hneg]; exact IntWalk.i64_in _ (by constructor <;> omega)
  have hml : m < 9223372036854775808 := by omega
  have HM := Lib.hid hm
  clear hm hneg
  go_wp2_with fail
  refine (small_at m hml w1').mono ?_
  rintro e w2' ⟨vn, rfl, hvn, hbz⟩
  obtain ⟨an, cn, rfl, _⟩ := hvn.open_
  replace HR_o := Lib.hid (HR_o.out.ext hbz)
  replace HW := Lib.hid (ext_trans HW.out hbz)
  clear hbz
  have HVN : Hid (N w2' (.slice an (digs m).length cn) m) := Lib.hid hvn
  clear hvn
  go_wp2_with fail
  refine (small_at 1 (by decide) w2').mono ?_
  rintro e w3' ⟨vd, rfl, hvd, hbz⟩
  obtain ⟨ad, cd, rfl, _⟩ := hvd.open_
  replace HR_o := Lib.hid (HR_o.out.ext hbz)
  replace HVN := Lib.hid (HVN.out.ext hbz)
  replace HW := Lib.hid (ext_trans HW.out hbz)
  clear hbz
  have HVD : Hid (N w3' (.slice ad (digs 1).length cd) 1) := Lib.hid hvd
  clear hvd
  obtain ⟨c_o_0, c_o_1, c_o_2⟩ := zs3 HR_o.out
  have f_o_0 := HR_o.out.fre 0
  have f_o_1 := HR_o.out.fre 1
  have f_o_2 := HR_o.out.fre 2
  go_wp2
  obtain ⟨w4', hX⟩ : ∃ Z9, Z9 = (((w3'.setCell ⟨w.heap.size, 0, none⟩ (.bool true)).setCell ⟨w.heap.size, 1, none⟩ (.slice an (digs m).length cn)).setCell ⟨w.heap.size, 2, none⟩ (.slice ad (digs 1).length cd)) := ⟨_, rfl⟩
  rw [← hX]
  have n_o : Hid (RH w4' w.heap.size #[.bool true, .slice an (digs m).length cn, .slice ad (digs 1).length cd] 48) := by rw [hX]; exact Lib.hid ((((HR_o.out).set 0 (.bool true)).set 1 (.slice an (digs m).length cn)).set 2 (.slice ad (digs 1).length cd))
  have HK_ : ∀ p : Addr, p.block ≠ w.heap.size → w4'.cell? p = w3'.cell? p := fun p hp => by rw [hX]; exact (cs_other' hp).trans ((cs_other' hp).trans (cs_other' hp))
  have n_HVN : Hid (N w4' (.slice an (digs m).length cn) m) := Lib.hid (HVN.out.far HR_o.out.box (noI_all (by simp [isI])) HK_)
  have n_HVD : Hid (N w4' (.slice ad (digs 1).length cd) 1) := Lib.hid (HVD.out.far HR_o.out.box (noI_all (by simp [isI])) HK_)
  have nW : Hid (Below w.heap.size w w4') := by rw [hX]; exact Lib.hid (zzw (zzw (zzw (HW.out) (by omega)) (by omega)) (by omega))
  clear c_o_0 c_o_1 c_o_2 f_o_0 f_o_1 f_o_2
  clear hX HK_ HW HR_o HVN HVD
  have HR_o := n_o; clear n_o
  have HVN := n_HVN; clear n_HVN
  have HVD := n_HVD; clear n_HVD
  have HW := nW; clear nW
  exact bodyPost_ret (v := .agg #[.bool true, .slice an (digs m).length cn, .slice ad (digs 1).length cd]) (results_cell_row rfl _ _ _ _ _ _ _ rfl HR_o.out Tryz.underlying48 rfl (by kernel_rfl : (Tryz.prog.info? 48).map (·.size) = some 3)) rfl ⟨⟨true, an, _, cn, ad, _, cd⟩, rfl, (decide_eq_true hz).symm, ⟨by rw [HM.out]; exact HVN.out, HVD.out⟩, HW.out⟩
 ·obtain ⟨m, hm⟩ : ∃ m : Nat, z.natAbs = m := ⟨_, rfl⟩
  have hneg : z = (m : Int) := by omega
  have hz0 : ¬ (m : Int) < 0 := by omega
  subst hneg
  have hml : m < 9223372036854775808 := by omega
  have HM := Lib.hid hm
  clear hm hz
  go_wp2_with fail
  refine (small_at m hml w1').mono ?_
  rintro e w2' ⟨vn, rfl, hvn, hbz⟩
  obtain ⟨an, cn, rfl, _⟩ := hvn.open_
  replace HR_o := Lib.hid (HR_o.out.ext hbz)
  replace HW := Lib.hid (ext_trans HW.out hbz)
  clear hbz
  have HVN : Hid (N w2' (.slice an (digs m).length cn) m) := Lib.hid hvn
  clear hvn
  go_wp2_with fail
  refine (small_at 1 (by decide) w2').mono ?_
  rintro e w3' ⟨vd, rfl, hvd, hbz⟩
  obtain ⟨ad, cd, rfl, _⟩ := hvd.open_
  replace HR_o := Lib.hid (HR_o.out.ext hbz)
  replace HVN := Lib.hid (HVN.out.ext hbz)
  replace HW := Lib.hid (ext_trans HW.out hbz)
  clear hbz
  have HVD : Hid (N w3' (.slice ad (digs 1).length cd) 1) := Lib.hid hvd
  clear hvd
  obtain ⟨c_o_0, c_o_1, c_o_2⟩ := zs3 HR_o.out
  have f_o_0 := HR_o.out.fre 0
  have f_o_1 := HR_o.out.fre 1
  have f_o_2 := HR_o.out.fre 2
  go_wp2
  obtain ⟨w4', hX⟩ : ∃ Z9, Z9 = (((w3'.setCell ⟨w.heap.size, 0, none⟩ (.bool false)).setCell ⟨w.heap.size, 1, none⟩ (.slice an (digs m).length cn)).setCell ⟨w.heap.size, 2, none⟩ (.slice ad (digs 1).length cd)) := ⟨_, rfl⟩
  rw [← hX]
  have n_o : Hid (RH w4' w.heap.size #[.bool false, .slice an (digs m).length cn, .slice ad (digs 1).length cd] 48) := by rw [hX]; exact Lib.hid ((((HR_o.out).set 0 (.bool false)).set 1 (.slice an (digs m).length cn)).set 2 (.slice ad (digs 1).length cd))
  have HK_ : ∀ p : Addr, p.block ≠ w.heap.size → w4'.cell? p = w3'.cell? p := fun p hp => by rw [hX]; exact (cs_other' hp).trans ((cs_other' hp).trans (cs_other' hp))
  have n_HVN : Hid (N w4' (.slice an (digs m).length cn) m) := Lib.hid (HVN.out.far HR_o.out.box (noI_all (by simp [isI])) HK_)
  have n_HVD : Hid (N w4' (.slice ad (digs 1).length cd) 1) := Lib.hid (HVD.out.far HR_o.out.box (noI_all (by simp [isI])) HK_)
  have nW : Hid (Below w.heap.size w w4') := by rw [hX]; exact Lib.hid (zzw (zzw (zzw (HW.out) (by omega)) (by omega)) (by omega))
  clear c_o_0 c_o_1 c_o_2 f_o_0 f_o_1 f_o_2
  clear hX HK_ HW HR_o HVN HVD
  have HR_o := n_o; clear n_o
  have HVN := n_HVN; clear n_HVN
  have HVD := n_HVD; clear n_HVD
  have HW := nW; clear nW
  exact bodyPost_ret (v := .agg #[.bool false, .slice an (digs m).length cn, .slice ad (digs 1).length cd]) (results_cell_row rfl _ _ _ _ _ _ _ rfl HR_o.out Tryz.underlying48 rfl (by kernel_rfl : (Tryz.prog.info? 48).map (·.size) = some 3)) rfl ⟨⟨false, an, _, cn, ad, _, cd⟩, rfl, (decide_eq_false (by omega)).symm, ⟨by rw [HM.out]; exact HVN.out, HVD.out⟩, HW.out⟩
end Nt
end Go.Proofs.YtiieckboccbhhaaGreatDoor
namespace Go.Proofs.YtiieckboccbhhaaGreatDoor
open Go.RowKit
namespace Nt

/-- whole numbers stay whole -/
theorem fwtimes_at (t s : F3) (n m : Nat) (h1 : t.b = false) (h2 : s.b = false) (l1 : wlen n ≤ 10000000) (l3 : wlen m ≤ 10000000) (w : World) (hx : FX w t n 1) (hy : FX w s m 1) : Calls Tryz.prog 49 #[f3V t, f3V s] w (FcPost w false (n * m) 1) := by
 have l2 : wlen 1 ≤ 10000000 := Nat.le_trans (wlen_le (k := 1) (by decide)) (by decide)
 refine (ftimes_at t s n 1 m 1 (by decide) (by decide) l1 l2 l3 l2 w hx hy).mono ?_
 rintro e w' ⟨t9, n9, d9, rfl, hs, hx9, hb⟩
 rw [h1, h2] at hs
 have hs' : Sim false (n * m) 1 t9.b n9 d9 := hs
 obtain ⟨rfl, rfl⟩ := hs'.whole
 exact ⟨t9, rfl, hs'.plus, hx9, hb⟩
theorem fwplus_at (t s : F3) (n m : Nat) (h1 : t.b = false) (h2 : s.b = false) (l1 : wlen n ≤ 10000000) (l3 : wlen m ≤ 10000000) (w : World) (hx : FX w t n 1) (hy : FX w s m 1) : Calls Tryz.prog 48 #[f3V t, f3V s] w (FcPost w false (n + m) 1) := by
 have l2 : wlen 1 ≤ 10000000 := Nat.le_trans (wlen_le (k := 1) (by decide)) (by decide)
 refine (fplus_at t s n 1 m 1 (by decide) (by decide) l1 l2 l3 l2 w hx hy).mono ?_
 rintro e w' ⟨t9, n9, d9, rfl, hs, hx9, hb⟩
 rw [h1, h2] at hs
 have e1 : plB false false (n * 1) (m * 1) = false := rfl
 have e2 : plN false false (n * 1) (m * 1) = n + m := by unfold plN; rw [if_pos rfl, Nat.mul_one, Nat.mul_one]
 rw [e1, e2, Nat.mul_one] at hs
 obtain ⟨rfl, rfl⟩ := hs.whole
 exact ⟨t9, rfl, hs.plus, hx9, hb⟩
theorem fnat_at (n : Nat) (h : n ≤ 9223372036854775807) (w : World) : Calls Tryz.prog 30 #[.int .i64 (n : Int)] w (FcPost w false n 1) := by
 have h1 := fwhole_at (n : Int) (by omega) (by omega) w
 rw [decide_eq_false (by omega : ¬ (n : Int) < 0), Int.natAbs_natCast] at h1
 exact h1
theorem OF.lit (w : World) (base : Nat) (hb : base ≤ w.heap.size) (t : F3) : OF (w.alloc (.cells #[.bool t.b, .slice t.a1 t.n1 t.c1, .slice t.a2 t.n2 t.c2] 48)) base (.slice (some ⟨w.heap.size, 0, none⟩) 1 1) [t] := by
 refine ⟨World.ownsRow_lit w #[.bool t.b, .slice t.a1 t.n1 t.c1, .slice t.a2 t.n2 t.c2] 1 hb (by decide) rfl, fun g hg j u hu => ?_⟩
 have hg' : w.heap.size = g := by injection hg
 subst hg'
 rw [(RH.new w _ _).cell j] at hu
 exact noI_all (A := #[.bool t.b, .slice t.a1 t.n1 t.c1, .slice t.a2 t.n2 t.c2]) (by simp [isI]) j u hu
theorem OF.push {w' : World} {base : Nat} {v' : Value} {ts : List F3} {t : F3} (hown : w'.ownsRow base 48 3 v' (ts.length + 1) (ts.flatMap f3L ++ f3L t)) (hq : RowQ NI w' v') : OF w' base v' (ts ++ [t]) := by
 refine ⟨?_, hq⟩
 rw [List.flatMap_append, List.length_append]
 simpa using hown
theorem WL.one {w : World} {t : F3} {n : Nat} (hb : t.b = false) (hx : FX w t n 1) : WL w [t] [n] := (WL.nil w).snoc hb hx
def pwL (x k : Nat) : List Nat := (List.range (k + 1)).map fun i => x ^ i
theorem pwL_succ (x k : Nat) : pwL x (k + 1) = pwL x k ++ [x ^ (k + 1)] := by unfold pwL; rw [List.range_succ, List.map_append]; rfl
theorem pwL_len (x k : Nat) : (pwL x k).length = k + 1 := by simp [pwL]
theorem pwL_get (x : Nat) {k i : Nat} (h : i ≤ k) : (pwL x k)[i]? = some (x ^ i) := by unfold pwL; rw [List.getElem?_map, List.getElem?_range (by omega)]; rfl
def LsPost (w : World) (l : List Nat) (e : Ending) (w' : World) : Prop := ∃ a c ts, e = .returned (.slice a ts.length c) ∧ Sl w' (.slice a ts.length c) ts.length (ts.flatMap f3L) ∧ WL w' ts l ∧ Below w.heap.size w w'
/-- a new slice of one fraction that is whole -/
def TP.fs (n : Nat) : TP := ⟨fun w v => ∃ (t : F3) (g : Nat), v = .slice (some ⟨g, 0, none⟩) 1 1 ∧ t.b = false ∧ FX w t n 1 ∧ Sl w (.slice (some ⟨g, 0, none⟩) 1 1) 1 (f3L t), fun _ _ _ hb ⟨t, g, h1, h2, h3, h4⟩ => ⟨t, g, h1, h2, h3.ext hb, h4.ext hb⟩⟩
theorem f3_len (t : F3) : (f3L t).length = 3 := rfl
theorem f3_one (t : F3) : ∀ u ∈ f3L t, u.oneCell' = true := by intro u hu; simp [f3L] at hu; rcases hu with rfl | rfl | rfl <;> rfl
theorem f3_ni (t : F3) : ∀ u ∈ f3L t, NI u := by intro u hu; simp [f3L] at hu; rcases hu with rfl | rfl | rfl <;> rfl
theorem fs_new {w : World} {t : F3} {n : Nat} (hb : t.b = false) (hx : FX w t n 1) : (TP.fs n).p (w.alloc (.cells #[.bool t.b, .slice t.a1 t.n1 t.c1, .slice t.a2 t.n2 t.c2] 48)) (.slice (some ⟨w.heap.size, 0, none⟩) 1 1) :=
 ⟨t, w.heap.size, rfl, hb, hx.ext (ext_alloc _ _), Sl.new w #[.bool t.b, .slice t.a1 t.n1 t.c1, .slice t.a2 t.n2 t.c2] _ 1 1 (by omega) (by decide)⟩
theorem wlen_pw {x : Nat} (h : x ≤ 1000) (k : Nat) : wlen (x ^ k) ≤ k + 1 := by
 induction k with
 | zero => rw [Nat.pow_zero]; exact wlen_le (by decide)
 | succ k ih =>
  rw [Nat.pow_succ]
  have h1 := wlen_mul (x ^ k) x
  have h2 : wlen x ≤ 1 := wlen_le (by unfold B; omega)
  omega
set_option maxRecDepth 100000 in
set_option maxHeartbeats 16000000 in
theorem powers_at (x n : Nat) (hx : x ≤ 1000) (hn : n ≤ 60) (w : World) : Calls Tryz.prog 47 #[.int .i64 (x : Int), .int .i64 (n : Int)] w (LsPost w (pwL x n)) := by
 have HI := Lib.hid fr_info
 go_enter Tryz.func47, Tryz.ntmps47
 have HW : Hid (Below w.heap.size w w) := Lib.hid (Below.refl _ _)
 have hf1 := fnat_at 1 (by decide) w
 rw [show ((1 : Nat) : Int) = 1 from rfl] at hf1
 have HF1 := Lib.hid hf1
 clear hf1
 go_wp2_with fail
 refine (HF1.out).mono ?_
 rintro e w1' ⟨t0, rfl, hb0, hx0, hbz⟩
 replace HW := Lib.hid (ext_trans HW.out hbz)
 clear hbz
 have HX0 : Hid (FX w1' t0 1 1) := Lib.hid hx0
 clear hx0
 have HB0 := Lib.hid hb0
 clear hb0 HF1
 go_wp2
 go_loopw [5, 9] (fun v i wr => ∃ (k : Nat) (ts : List F3), k ≤ n ∧ i = .int .i64 (k : Int) ∧ Hid (OF wr w.heap.size v ts) ∧ Hid (WL wr ts (pwL x k)) ∧ Hid (Below w.heap.size w wr)) (fun _ i _ => n - (intOf i).toNat)
 case atStart => exact ⟨0, [t0], by omega, rfl, Lib.hid (OF.lit _ _ HW.out.size _), Lib.hid (WL.one HB0.out (HX0.out.ext (ext_alloc _ _))), Lib.hid (ext_trans HW.out (ext_alloc _ _))⟩
 case round =>
  clear HW HX0 HB0
  obtain ⟨k, ts, hk, rfl, HO, HL, HW⟩ := hrel
  generalize hX : wr = X at *
  clear hX
  have htl : ts.length = k + 1 := by rw [HL.out.len, pwL_len]
  obtain ⟨a9, c9, hv9, _⟩ := id (Sl.ofOwn HO.out.own)
  subst hv9
  by_cases hlt : k < n
  ·obtain ⟨ta, hta⟩ : ∃ t, ts[k]? = some t := ⟨_, List.getElem?_eq_getElem (by omega)⟩
   obtain ⟨pba, poa, hpa, hcsa⟩ := (Sl.ofOwn HO.out.own).elem (f := f3L) f3_len (by omega : 0 < 3) hta
   subst hpa
   have ea0 : X.cell? ⟨pba, poa + k * 3, none⟩ = some (.bool ta.b) := hcsa 0 _ rfl
   have ea1 : X.cell? ⟨pba, poa + k * 3 + 1, none⟩ = some (.slice ta.a1 ta.n1 ta.c1) := hcsa 1 _ rfl
   have ea2 : X.cell? ⟨pba, poa + k * 3 + 2, none⟩ = some (.slice ta.a2 ta.n2 ta.c2) := hcsa 2 _ rfl
   clear hcsa
   have HTK := Lib.hid (HL.out.ok k ta (x ^ k) hta (pwL_get x (Nat.le_refl k)))
   have hl1 : (ts.length : Int) - 1 = (k : Int) := by omega
   have hk1 : (k : Int) < (ts.length : Int) := by omega
   have hk0 : (0 : Int) ≤ (k : Int) := Int.natCast_nonneg _
   have hk3 : (k : Int).toNat = k := by omega
   have lk := wlen_pw hx k
   have lx := wlen_pw hx 1
   rw [Nat.pow_one] at lx
   have HTL := Lib.hid htl
   clear hta htl
   have HXa : Hid (FX X ta (x ^ k) 1) := Lib.hid (HTK.out.2)
   go_upto_region 4 with (fail)
   refine Grow.wp_region_grow 11 [TP.eq (.slice (some ⟨pba, poa, none⟩) ts.length c9), TP.eq (.slice (some ⟨pba, poa, none⟩) ts.length c9), TP.eq (.slice (some ⟨pba, poa, none⟩) ts.length c9), TP.eq (.int .i64 ((ts.length : Int))), TP.eq (.int .i64 ((k : Int))), TP.eq (.pointer (some ⟨pba, poa + k * 3, none⟩)), TP.eq (f3V ta), TP.eq (.int .i64 ((x : Int))), TP.fc false (x) 1, TP.fc false (x ^ k * x) 1, TP.fs (x ^ k * x)] [[], [], [], [2], [3], [1, 4], [5], [], [7], [6, 8], [9]] (by kernel_rfl) (by kernel_rfl) ⟨?o0g, ?o1g, ?o2g, ?o3g, ?o4g, ?o5g, ?o6g, ?o7g, ?o8g, ?o9g, ?o10g, trivial⟩ ?_
   case o0g | o1g | o2g | o7g =>
    intro w' hb
    show wpList _ _ _ _ _ _
    go_wp2
    exact ⟨rfl, Below.refl _ _, rfl⟩
   case o3g | o4g =>
    intro w' hb v1 hv1
    obtain rfl : v1 = _ := hv1
    show wpList _ _ _ _ _ _
    simp only [Grow.dstOf, zz1, zz2, zz3, zz4, Act.put, zz5, zz6, zz7]
    go_wp2
    exact ⟨rfl, Below.refl _ _, rfl⟩
   case o5g =>
    intro w' hb v1 hv1 v2 hv2
    obtain rfl : v1 = _ := hv1
    obtain rfl : v2 = _ := hv2
    show wpList _ _ _ _ _ _
    simp only [Grow.dstOf, zz1, zz2, zz3, zz4, Act.put, zz5, zz6, zz7]
    go_wp2
    exact ⟨rfl, Below.refl _ _, rfl⟩
   case o6g =>
    intro w' hb v1 hv1
    obtain rfl : v1 = _ := hv1
    have ea0' := zzc hb ea0
    have ea1' := zzc hb ea1
    have ea2' := zzc hb ea2
    show wpList _ _ _ _ _ _
    simp only [Grow.dstOf, zz1, zz2, zz3, zz4, Act.put, zz5, zz6, zz7]
    go_wp2
    exact ⟨rfl, Below.refl _ _, rfl⟩
   case o8g =>
    intro w' hb v1 hv1
    obtain rfl : v1 = _ := hv1
    show wpList _ _ _ _ _ _
    simp only [Grow.dstOf, zz1, zz2, zz3, zz4, Act.put, zz5, zz6, zz7]
    go_wp2_with fail
    refine (fnat_at x (by omega) w').mono ?_
    rintro e wz ⟨t9, rfl, hb9, hx9, hbz⟩
    go_wp2
    exact ⟨⟨t9, rfl, hb9, hx9⟩, hbz, rfl⟩
   case o9g =>
    intro w' hb v1 hv1 v2 hv2
    obtain rfl : v1 = _ := hv1
    obtain ⟨t8, rfl, hb8, hx8⟩ := hv2
    have HB8 := Lib.hid hb8
    clear hb8
    show wpList _ _ _ _ _ _
    simp only [Grow.dstOf, zz1, zz2, zz3, zz4, Act.put, zz5, zz6, zz7]
    go_wp2_with fail
    refine (fwtimes_at ta t8 (x ^ k) x HTK.out.1 HB8.out (by omega) (by omega) w' (HXa.out.ext hb) hx8).mono ?_
    rintro e wz ⟨t9, rfl, hb9, hx9, hbz⟩
    go_wp2
    exact ⟨⟨t9, rfl, hb9, hx9⟩, hbz, rfl⟩
   case o10g =>
    intro w' hb v1 hv1
    obtain ⟨t8, rfl, hb8, hx8⟩ := hv1
    have HB8 := Lib.hid hb8
    clear hb8
    show wpList _ _ _ _ _ _
    simp only [Grow.dstOf, zz1, zz2, zz3, zz4, Act.put, zz5, zz6, zz7]
    go_wp2
    exact ⟨fs_new HB8.out hx8, ext_alloc _ _, rfl⟩
   intro w2' hbz u0 hu0 u1 hu1 u2 hu2 u3 hu3 u4 hu4 u5 hu5 u6 hu6 u7 hu7 u8 hu8 u9 hu9 u10 hu10
   obtain rfl : u0 = _ := hu0
   clear hu1 hu2 hu3 hu4 hu5 hu6 hu7 hu8 hu9
   replace HO := Lib.hid (HO.out.ext hbz)
   replace HL := Lib.hid (HL.out.ext hbz)
   replace HXa := Lib.hid (HXa.out.ext hbz)
   replace HW := Lib.hid (ext_trans HW.out hbz)
   clear ea0 ea1 ea2
   clear hbz
   clear HXa
   obtain ⟨t9, g9, rfl, hb9, hx9, hsl9⟩ := (show ∃ (t : F3) (g : Nat), u10 = .slice (some ⟨g, 0, none⟩) 1 1 ∧ t.b = false ∧ FX w2' t (x ^ k * x) 1 ∧ Sl w2' (.slice (some ⟨g, 0, none⟩) 1 1) 1 (f3L t) from hu10)
   clear hu10
   have HS9 := Lib.hid (And.intro hb9 (And.intro hx9 hsl9))
   clear hb9 hx9 hsl9
   show wpList _ _ _ _ _ _
   simp only [Act.put, zz5, zz6, zz7]
   refine wpList_append_q NI rfl _ _ 49 rfl w.heap.size 48 Tryz.underlying49 HI.out rfl (by decide) rfl HO.out.own rfl HS9.out.2.2 rfl (f3_one t9) (by have := HTL.out; unfold maxLen; omega) (by have := HTL.out; omega) HW.out.size HO.out.q (by intro u hu; simp [Value.cells] at hu; rcases hu with rfl | rfl | rfl <;> rfl) (f3_ni t9) ?_
   intro v7 w7 hown7 hg7 hat7 hq7
   have HO7 := Lib.hid (OF.push hown7 hq7)
   have HL7 := Lib.hid ((HL.out.keepQ HO.out.q hg7).snoc HS9.out.1 (HS9.out.2.1.keepQ HO.out.q hg7))
   have HW7 := Lib.hid (HW.out.grown hg7 HW.out.size (fun q e => (HO.out.own.lt q e).1))
   clear hown7 hg7 hat7 hq7
   go_wp2
   go_roundw
   case rel => exact ⟨k + 1, ts ++ [t9], by omega, by go_num, HO7, Lib.hid (by rw [pwL_succ, Nat.pow_succ]; exact HL7.out), HW7⟩
   case measure => simp [intOf]; omega
  ·obtain rfl : k = n := by omega
   have HS := Lib.hid (Sl.ofOwn HO.out.own)
   go_wp2
   exact bodyPost_ret (v := .slice a9 ts.length c9) (by simp [results, Tryz.results47, go_sem]) rfl ⟨_, _, ts, rfl, HS.out, HL.out, HW.out⟩
end Nt
end Go.Proofs.YtiieckboccbhhaaGreatDoor
namespace Go.Proofs.YtiieckboccbhhaaGreatDoor
open Go.RowKit
namespace Nt
open _root_.Go.Proofs.YtiieckboccbhhaaGreatDoor.Nm (chooseN chooseN_zero chooseN_self chooseN_le)

/-- a row of Pascal's triangle, and the next one as far as it stands -/
def rwL (j : Nat) : List Nat := (List.range (j + 1)).map fun i => chooseN j i
def nxL (j k : Nat) : List Nat := (List.range k).map fun i => chooseN (j + 1) i
theorem rwL_len (j : Nat) : (rwL j).length = j + 1 := by simp [rwL]
theorem nxL_len (j k : Nat) : (nxL j k).length = k := by simp [nxL]
theorem rwL_get {j i : Nat} (h : i ≤ j) : (rwL j)[i]? = some (chooseN j i) := by unfold rwL; rw [List.getElem?_map, List.getElem?_range (by omega)]; rfl
theorem nxL_one (j : Nat) : nxL j 1 = [1] := by simp [nxL, chooseN_zero]
theorem nxL_succ (j k : Nat) : nxL j (k + 1) = nxL j k ++ [chooseN (j + 1) k] := by unfold nxL; rw [List.range_succ, List.map_append]; rfl
theorem rwL_next (j : Nat) : rwL (j + 1) = nxL j (j + 1) ++ [1] := by
 show nxL j (j + 2) = _
 rw [nxL_succ, chooseN_self]
theorem wlen_ch {n k : Nat} (h : n ≤ 60) : wlen (chooseN n k) ≤ 100 := Nat.le_trans (wlen_mono (Nat.le_trans (chooseN_le n k) (Nat.pow_le_pow_right (by decide) h))) (Nat.le_trans (wlen_le (k := 3) (by decide)) (by decide))
set_option maxRecDepth 100000 in
set_option maxHeartbeats 16000000 in
theorem ways_at (n : Nat) (hn : n ≤ 60) (w : World) : Calls Tryz.prog 46 #[.int .i64 (n : Int)] w (LsPost w (rwL n)) := by
 have HI := Lib.hid fr_info
 go_enter Tryz.func46, Tryz.ntmps46
 have HW : Hid (Below w.heap.size w w) := Lib.hid (Below.refl _ _)
 have hf1 := fun W9 => fnat_at 1 (by decide) W9
 simp only [show ((1 : Nat) : Int) = 1 from rfl] at hf1
 have HF1 := Lib.hid hf1
 clear hf1
 go_wp2_with fail
 refine (HF1.out _).mono ?_
 rintro e w1' ⟨t0, rfl, hb0, hx0, hbz⟩
 replace HW := Lib.hid (ext_trans HW.out hbz)
 clear hbz
 have HX0 : Hid (FX w1' t0 1 1) := Lib.hid hx0
 clear hx0
 have HB0 := Lib.hid hb0
 clear hb0
 go_wp2
 go_loopw [3, 4, 5, 9] (fun r _ _ i wr => ∃ (j : Nat) (ts : List F3), j ≤ n ∧ i = .int .i64 (j : Int) ∧ Hid (Sl wr r ts.length (ts.flatMap f3L)) ∧ Hid (WL wr ts (rwL j)) ∧ Hid (Below w.heap.size w wr)) (fun _ _ _ i _ => n - (intOf i).toNat)
 case atStart => exact ⟨0, [t0], by omega, rfl, Lib.hid (Sl.ofOwn (OF.lit _ _ HW.out.size _).own), Lib.hid (WL.one HB0.out (HX0.out.ext (ext_alloc _ _))), Lib.hid (ext_trans HW.out (ext_alloc _ _))⟩
 case round =>
  clear HW HX0 HB0
  obtain ⟨j, ts, hj, rfl, HS, HT, HWO⟩ := hrel
  generalize hX : wr = X at *
  clear hX
  have htl : ts.length = j + 1 := by rw [HT.out.len, rwL_len]
  obtain ⟨a9, c9, hv9, _⟩ := id HS.out
  subst hv9
  by_cases hlt : j < n
  ·have HTL := Lib.hid htl
   clear htl
   have HW : Hid (Below X.heap.size X X) := Lib.hid (Below.refl _ _)
   go_wp2_with fail
   refine (HF1.out _).mono ?_
   rintro e w2' ⟨t1, rfl, hb1, hx1, hbz⟩
   replace HW := Lib.hid (ext_trans HW.out hbz)
   clear hbz
   have HX1 : Hid (FX w2' t1 1 1) := Lib.hid hx1
   clear hx1
   have HB1 := Lib.hid hb1
   clear hb1
   go_wp2
   go_loopw [4, 5] (fun v kk wr => ∃ (k : Nat) (us : List F3), 1 ≤ k ∧ k ≤ j + 1 ∧ kk = .int .i64 (k : Int) ∧ Hid (OF wr X.heap.size v us) ∧ Hid (WL wr us (nxL j k)) ∧ Hid (Below X.heap.size X wr)) (fun _ kk _ => j + 1 - (intOf kk).toNat)
   case atStart => exact ⟨1, [t1], by omega, by omega, rfl, Lib.hid (OF.lit _ _ HW.out.size _), Lib.hid (by rw [nxL_one]; exact WL.one HB1.out (HX1.out.ext (ext_alloc _ _))), Lib.hid (ext_trans HW.out (ext_alloc _ _))⟩
   case round =>
    clear HW HX1 HB1
    obtain ⟨k, us, hk1, hk, rfl, HO, HL, HW⟩ := hrel
    generalize hY : wr = Y at *
    clear hY
    have HUL : Hid (us.length = k) := Lib.hid (by rw [HL.out.len, nxL_len])
    obtain ⟨b9, d9, hv9, _⟩ := id (Sl.ofOwn HO.out.own)
    subst hv9
    have hlen : (ts.length : Int) = (j : Int) + 1 := by have := HTL.out; omega
    by_cases hkt : k < j + 1
    ·have hts1 : k - 1 < ts.length := by have := HTL.out; omega
     have hts2 : k < ts.length := by have := HTL.out; omega
     have HSY := Lib.hid (HS.out.ext HW.out)
     have HTY := Lib.hid (HT.out.ext HW.out)
     obtain ⟨k0, hk0⟩ : ∃ k0, k - 1 = k0 := ⟨_, rfl⟩
     have hki : (k : Int) - 1 = (k0 : Int) := by omega
     rw [hk0] at hts1
     obtain ⟨ta, hta⟩ : ∃ t, ts[k0]? = some t := ⟨_, List.getElem?_eq_getElem (by omega)⟩
     obtain ⟨pba, poa, hpa, hcsa⟩ := (HSY.out).elem (f := f3L) f3_len (by omega : 0 < 3) hta
     subst hpa
     have ea0 : Y.cell? ⟨pba, poa + k0 * 3, none⟩ = some (.bool ta.b) := hcsa 0 _ rfl
     have ea1 : Y.cell? ⟨pba, poa + k0 * 3 + 1, none⟩ = some (.slice ta.a1 ta.n1 ta.c1) := hcsa 1 _ rfl
     have ea2 : Y.cell? ⟨pba, poa + k0 * 3 + 2, none⟩ = some (.slice ta.a2 ta.n2 ta.c2) := hcsa 2 _ rfl
     clear hcsa
     obtain ⟨tb, htb⟩ : ∃ t, ts[k]? = some t := ⟨_, List.getElem?_eq_getElem (by omega)⟩
     obtain ⟨pbb, pob, hpb, hcsb⟩ := (HSY.out).elem (f := f3L) f3_len (by omega : 0 < 3) htb
     injection hpb with hpb
     obtain ⟨rfl, rfl⟩ : pba = pbb ∧ poa = pob := by cases hpb; exact ⟨rfl, rfl⟩
     clear hpb
     have eb0 : Y.cell? ⟨pba, poa + k * 3, none⟩ = some (.bool tb.b) := hcsb 0 _ rfl
     have eb1 : Y.cell? ⟨pba, poa + k * 3 + 1, none⟩ = some (.slice tb.a1 tb.n1 tb.c1) := hcsb 1 _ rfl
     have eb2 : Y.cell? ⟨pba, poa + k * 3 + 2, none⟩ = some (.slice tb.a2 tb.n2 tb.c2) := hcsb 2 _ rfl
     clear hcsb
     have HTA := Lib.hid (HTY.out.ok k0 ta (chooseN j k0) hta (rwL_get (by omega)))
     have HTB := Lib.hid (HTY.out.ok k tb (chooseN j k) htb (rwL_get (by omega)))
     have HCH : Hid (chooseN j k0 + chooseN j k = chooseN (j + 1) k) := Lib.hid (by have e : k = k0 + 1 := (by omega); rw [e]; rfl)
     have lc1 : wlen (chooseN j k0) ≤ 100 := wlen_ch (by omega)
     have lc2 : wlen (chooseN j k) ≤ 100 := wlen_ch (by omega)
     have hz0 : (0 : Int) ≤ (k0 : Int) := Int.natCast_nonneg _
     have hz1 : (k0 : Int) < (ts.length : Int) := by omega
     have hz2 : (0 : Int) ≤ (k : Int) := Int.natCast_nonneg _
     have hz3 : (k : Int) < (ts.length : Int) := by omega
     have hz4 : (k0 : Int).toNat = k0 := by omega
     have hz5 : (k : Int).toNat = k := by omega
     have HLEN := Lib.hid hlen
     generalize hc1 : chooseN j k0 = c1 at *
     generalize hc2 : chooseN j k = c2 at *
     clear hta htb hc1 hc2 hts1 hts2 hk0 hlen HSY HTY
     have HXa : Hid (FX Y ta c1 1) := Lib.hid (HTA.out.2)
     have HXb : Hid (FX Y tb c2 1) := Lib.hid (HTB.out.2)
     go_upto_region 8 with (fail)
     refine Grow.wp_region_grow 12 [TP.eq (.slice b9 us.length d9), TP.eq (.slice (some ⟨pba, poa, none⟩) ts.length c9), TP.eq (.int .i64 ((k : Int))), TP.eq (.int .i64 ((k0 : Int))), TP.eq (.pointer (some ⟨pba, poa + k0 * 3, none⟩)), TP.eq (f3V ta), TP.eq (.slice (some ⟨pba, poa, none⟩) ts.length c9), TP.eq (.int .i64 ((k : Int))), TP.eq (.pointer (some ⟨pba, poa + k * 3, none⟩)), TP.eq (f3V tb), TP.fc false (c1 + c2) 1, TP.fs (c1 + c2)] [[], [], [], [2], [1, 3], [4], [], [], [6, 7], [8], [5, 9], [10]] (by kernel_rfl) (by kernel_rfl) ⟨?o0h, ?o1h, ?o2h, ?o3h, ?o4h, ?o5h, ?o6h, ?o7h, ?o8h, ?o9h, ?o10h, ?o11h, trivial⟩ ?_
     case o0h | o1h | o2h | o6h | o7h =>
      intro w' hb
      show wpList _ _ _ _ _ _
      go_wp2
      exact ⟨rfl, Below.refl _ _, rfl⟩
     case o3h =>
      intro w' hb v1 hv1
      obtain rfl : v1 = _ := hv1
      show wpList _ _ _ _ _ _
      simp only [Grow.dstOf, zz1, zz2, zz3, zz4, Act.put, zz5, zz6, zz7]
      go_wp2
      exact ⟨rfl, Below.refl _ _, rfl⟩
     case o4h | o8h =>
      intro w' hb v1 hv1 v2 hv2
      obtain rfl : v1 = _ := hv1
      obtain rfl : v2 = _ := hv2
      show wpList _ _ _ _ _ _
      simp only [Grow.dstOf, zz1, zz2, zz3, zz4, Act.put, zz5, zz6, zz7]
      go_wp2
      exact ⟨rfl, Below.refl _ _, rfl⟩
     case o5h | o9h =>
      intro w' hb v1 hv1
      obtain rfl : v1 = _ := hv1
      have ea0' := zzc hb ea0
      have ea1' := zzc hb ea1
      have ea2' := zzc hb ea2
      have eb0' := zzc hb eb0
      have eb1' := zzc hb eb1
      have eb2' := zzc hb eb2
      show wpList _ _ _ _ _ _
      simp only [Grow.dstOf, zz1, zz2, zz3, zz4, Act.put, zz5, zz6, zz7]
      go_wp2
      exact ⟨rfl, Below.refl _ _, rfl⟩
     case o10h =>
      intro w' hb v1 hv1 v2 hv2
      obtain rfl : v1 = _ := hv1
      obtain rfl : v2 = _ := hv2
      show wpList _ _ _ _ _ _
      simp only [Grow.dstOf, zz1, zz2, zz3, zz4, Act.put, zz5, zz6, zz7]
      go_wp2_with fail
      refine (fwplus_at ta tb c1 c2 HTA.out.1 HTB.out.1 (by omega) (by omega) w' (HXa.out.ext hb) (HXb.out.ext hb)).mono ?_
      rintro e wz ⟨t9, rfl, hb9, hx9, hbz⟩
      go_wp2
      exact ⟨⟨t9, rfl, hb9, hx9⟩, hbz, rfl⟩
     case o11h =>
      intro w' hb v1 hv1
      obtain ⟨t8, rfl, hb8, hx8⟩ := hv1
      have HB8 := Lib.hid hb8
      clear hb8
      show wpList _ _ _ _ _ _
      simp only [Grow.dstOf, zz1, zz2, zz3, zz4, Act.put, zz5, zz6, zz7]
      go_wp2
      exact ⟨fs_new HB8.out hx8, ext_alloc _ _, rfl⟩
     intro w3' hbz u0 hu0 u1 hu1 u2 hu2 u3 hu3 u4 hu4 u5 hu5 u6 hu6 u7 hu7 u8 hu8 u9 hu9 u10 hu10 u11 hu11
     obtain rfl : u0 = _ := hu0
     clear hu1 hu2 hu3 hu4 hu5 hu6 hu7 hu8 hu9 hu10
     replace HO := Lib.hid (HO.out.ext hbz)
     replace HL := Lib.hid (HL.out.ext hbz)
     replace HXa := Lib.hid (HXa.out.ext hbz)
     replace HXb := Lib.hid (HXb.out.ext hbz)
     replace HW := Lib.hid (ext_trans HW.out hbz)
     clear ea0 ea1 ea2 eb0 eb1 eb2
     clear hbz
     clear HXa
     clear HXb
     obtain ⟨t9, g9, rfl, hb9, hx9, hsl9⟩ := (show ∃ (t : F3) (g : Nat), u11 = .slice (some ⟨g, 0, none⟩) 1 1 ∧ t.b = false ∧ FX w3' t (c1 + c2) 1 ∧ Sl w3' (.slice (some ⟨g, 0, none⟩) 1 1) 1 (f3L t) from hu11)
     clear hu11
     have HS9 := Lib.hid (And.intro hb9 (And.intro hx9 hsl9))
     clear hb9 hx9 hsl9
     show wpList _ _ _ _ _ _
     simp only [Act.put, zz5, zz6, zz7]
     refine wpList_append_q NI rfl _ _ 49 rfl X.heap.size 48 Tryz.underlying49 HI.out rfl (by decide) rfl HO.out.own rfl HS9.out.2.2 rfl (f3_one t9) (by have := HUL.out; unfold maxLen; omega) (by have := HUL.out; omega) HW.out.size HO.out.q (by intro u hu; simp [Value.cells] at hu; rcases hu with rfl | rfl | rfl <;> rfl) (f3_ni t9) ?_
     intro v7 w7 hown7 hg7 hat7 hq7
     have HO7 := Lib.hid (OF.push hown7 hq7)
     have HL7 := Lib.hid ((HL.out.keepQ HO.out.q hg7).snoc HS9.out.1 (HS9.out.2.1.keepQ HO.out.q hg7))
     have HW7 := Lib.hid (HW.out.grown hg7 HW.out.size (fun q e => (HO.out.own.lt q e).1))
     clear hown7 hg7 hat7 hq7
     go_wp2
     go_roundw
     case rel => exact ⟨k + 1, us ++ [t9], by omega, by omega, by go_num, HO7, Lib.hid (by rw [nxL_succ, ← HCH.out]; exact HL7.out), HW7⟩
     case measure => simp [intOf]; omega
    ·obtain rfl : k = j + 1 := by omega
     go_wp2_with fail
     refine (HF1.out _).mono ?_
     rintro e w3' ⟨t2, rfl, hb2, hx2, hbz⟩
     replace HO := Lib.hid (HO.out.ext hbz)
     replace HL := Lib.hid (HL.out.ext hbz)
     replace HW := Lib.hid (ext_trans HW.out hbz)
     clear hbz
     have HX2 : Hid (FX w3' t2 1 1) := Lib.hid hx2
     clear hx2
     have HB2 := Lib.hid hb2
     clear hb2
     have HOA := Lib.hid (HO.out.ext (ext_alloc w3' (.cells #[.bool t2.b, .slice t2.a1 t2.n1 t2.c1, .slice t2.a2 t2.n2 t2.c2] 48)))
     have HLA_ := Lib.hid (HL.out.ext (ext_alloc w3' (.cells #[.bool t2.b, .slice t2.a1 t2.n1 t2.c1, .slice t2.a2 t2.n2 t2.c2] 48)))
     have HWA_ := Lib.hid (ext_trans HW.out (ext_alloc w3' (.cells #[.bool t2.b, .slice t2.a1 t2.n1 t2.c1, .slice t2.a2 t2.n2 t2.c2] 48)))
     have HXA_ := Lib.hid (HX2.out.ext (ext_alloc w3' (.cells #[.bool t2.b, .slice t2.a1 t2.n1 t2.c1, .slice t2.a2 t2.n2 t2.c2] 48)))
     go_wp2_with (at_builtin; refine wpList_append_q NI rfl _ _ 49 rfl X.heap.size 48 Tryz.underlying49 HI.out rfl (by decide) rfl HOA.out.own rfl (Sl.new w3' #[.bool t2.b, .slice t2.a1 t2.n1 t2.c1, .slice t2.a2 t2.n2 t2.c2] _ 1 1 (by omega) (by decide)) rfl (f3_one t2) (by have := HUL.out; unfold maxLen; omega) (by have := HUL.out; omega) HWA_.out.size HOA.out.q (by intro u hu; simp [Value.cells] at hu; rcases hu with rfl | rfl | rfl <;> rfl) (f3_ni t2) ?_; intro v7 w7 hown7 hg7 hat7 hq7; have HO7 := Lib.hid (OF.push hown7 hq7); have HL7 := Lib.hid ((HLA_.out.keepQ HOA.out.q hg7).snoc HB2.out (HXA_.out.keepQ HOA.out.q hg7)); have HW7 := Lib.hid (HWA_.out.grown hg7 HWA_.out.size (fun q e => (HOA.out.own.lt q e).1)); clear hown7 hg7 hat7 hq7)
     have HS7 := Lib.hid (Sl.ofOwn HO7.out.own)
     go_roundw
     case rel => exact ⟨j + 1, us ++ [t2], by omega, by go_num, by simpa using HS7, Lib.hid (by rw [rwL_next]; exact HL7.out), Lib.hid (ext_trans HWO.out HW7.out)⟩
     case measure => simp [intOf]; omega
  ·obtain rfl : j = n := by omega
   clear htl
   go_wp2
   exact bodyPost_ret (v := .slice a9 ts.length c9) (by simp [results, Tryz.results46, go_sem]) rfl ⟨_, _, ts, rfl, HS.out, HT.out, HWO.out⟩
end Nt
end Go.Proofs.YtiieckboccbhhaaGreatDoor
