/- Lists of whole fractions of the reference. Printed by gen_frl.py. Whole, Plus, Times, Minus, Over, Less of the references: on numbers that are short enough. -/
import Derived.Test.YtiieckboccbhhaaGreatDoorB929
import Derived.Test.YtiieckboccbhhaaGreatDoorB900
import Derived.Test.YtiieckboccbhhaaGreatDoorB904
import Derived.Test.YtiieckboccbhhaaGreatDoorB923
import Derived.Test.YtiieckboccbhhaaGreatDoorB934
import Derived.Test.YtiieckboccbhhaaGreatDoorB902
import Derived.Test.YtiieckboccbhhaaGreatDoorProg
import Derived.Test.YtiieckboccbhhaaGreatDoorB903
import Derived.Test.YtiieckboccbhhaaGreatDoorB905
import Derived.Test.YtiieckboccbhhaaGreatDoorB906
import Derived.Test.YtiieckboccbhhaaGreatDoorB907
import Derived.Test.YtiieckboccbhhaaGreatDoorB908
import Derived.Test.YtiieckboccbhhaaGreatDoorB909
import Derived.Test.YtiieckboccbhhaaGreatDoorB912
import Derived.Test.YtiieckboccbhhaaGreatDoorB913
import Derived.Test.YtiieckboccbhhaaGreatDoorB914
import Derived.Test.YtiieckboccbhhaaGreatDoorB915
import Derived.Test.YtiieckboccbhhaaGreatDoorB916
import Derived.Test.YtiieckboccbhhaaGreatDoorB917
import Derived.Test.YtiieckboccbhhaaGreatDoorB918
import Derived.Test.YtiieckboccbhhaaGreatDoorB919
import Derived.Test.YtiieckboccbhhaaGreatDoorB920
import Derived.Test.YtiieckboccbhhaaGreatDoorB921
import Derived.Test.YtiieckboccbhhaaGreatDoorShelf
import Derived.Test.YtiieckboccbhhaaGreatDoorB922
import Derived.Test.YtiieckboccbhhaaGreatDoorB924
import Derived.Test.YtiieckboccbhhaaGreatDoorB925
import Derived.Test.YtiieckboccbhhaaGreatDoorB932
import Derived.Test.YtiieckboccbhhaaGreatDoorB933
namespace Go.Proofs.YtiieckboccbhhaaGreatDoor
open Go.RowKit
namespace Nt
open _root_.Go.Proofs.YtiieckboccbhhaaGreatDoor.Nm (chooseN chooseN_le tailN tailN_le tailQ tailQ_zero)

/-- a fraction that reads as q, of few digits -/
def FQ (w : World) (t : F3) (q : Rat) : Prop := ∃ n' d', (0 < d' ∧ wlen n' ≤ 100 ∧ wlen d' ≤ 100 ∧ fq t.b n' d' = q) ∧ FX w t n' d'
theorem FQ.ext {w w' : World} {t : F3} {q : Rat} (h : FQ w t q) (hb : Below w.heap.size w w') : FQ w' t q := by obtain ⟨n', d', h1, h2⟩ := h; exact ⟨n', d', h1, h2.ext hb⟩
/-- the tails so far -/
structure TLs (w : World) (us : List F3) (n m k : Nat) : Prop where
 len : us.length = k + 1
 ok : ∀ (i : Nat) t, us[i]? = some t → FQ w t (tailQ n m i)
theorem TLs.ext {w w' : World} {us : List F3} {n m k : Nat} (h : TLs w us n m k) (hb : Below w.heap.size w w') : TLs w' us n m k := ⟨h.len, fun i t e => (h.ok i t e).ext hb⟩
theorem TLs.far {w w' : World} {b : Nat} {A : Array Value} {us : List F3} {n m k : Nat} (h : TLs w us n m k) (hA : Box w b A) (hn : NoI A) (hk : ∀ p : Addr, p.block ≠ b → w'.cell? p = w.cell? p) : TLs w' us n m k :=
 ⟨h.len, fun i t e => by obtain ⟨n', d', h1, h2⟩ := h.ok i t e; exact ⟨n', d', h1, h2.far hA hn hk⟩⟩
theorem TLs.keepQ {w w' : World} {r : Value} {us : List F3} {n m k : Nat} (h : TLs w us n m k) (hR : RowQ NI w r) (hg : w.grownBy w' r.ownBlock) : TLs w' us n m k :=
 ⟨h.len, fun i t e => by obtain ⟨n', d', h1, h2⟩ := h.ok i t e; exact ⟨n', d', h1, h2.keepQ hR hg⟩⟩
theorem TLs.one {w : World} {t : F3} {n m : Nat} (hx : FX w t 0 1) : TLs w [t] n m 0 := by
 refine ⟨rfl, fun i t' e => ?_⟩
 have hi : i = 0 := by
  rcases Nat.eq_zero_or_pos i with h | h
  ·exact h
  ·rw [List.getElem?_eq_none (by simp; omega)] at e; cases e
 subst hi
 cases e
 exact ⟨0, 1, ⟨by decide, by rw [wlen_zero]; decide, Nat.le_trans (wlen_le (k := 1) (by decide)) (by decide), by rw [tailQ_zero]; exact (fq_zero (by decide)).2 rfl⟩, hx⟩
theorem TLs.snoc {w : World} {us : List F3} {t : F3} {n m k n' d' : Nat} (h : TLs w us n m k) (hq : 0 < d' ∧ wlen n' ≤ 100 ∧ wlen d' ≤ 100 ∧ fq t.b n' d' = tailQ n m (k + 1)) (hx : FX w t n' d') : TLs w (us ++ [t]) n m (k + 1) := by
 refine ⟨by simp [h.len], fun i t' e => ?_⟩
 rcases Nat.lt_or_ge i us.length with hi | hi
 ·rw [List.getElem?_append_left hi] at e; exact h.ok i t' e
 ·rw [List.getElem?_append_right hi] at e
  have h0 : i - us.length = 0 := by
   rcases Nat.eq_zero_or_pos (i - us.length) with h0 | h0
   ·exact h0
   ·rw [List.getElem?_eq_none (by simp; omega)] at e; cases e
  rw [h0] at e
  cases e
  have := h.len
  obtain rfl : i = k + 1 := by omega
  exact ⟨n', d', hq, hx⟩
theorem fq_of {a b c : Bool} {n m k n7 d7 : Nat} (ha : a = false) (hb : b = false) (hp : 0 < 1000 ^ n) (l7 : wlen (tailN n m (k + 1)) ≤ 61) (l8 : wlen (1000 ^ n) ≤ 61) (hs : Sim (a != b) (tailN n m (k + 1) * 1) (1 * 1000 ^ n) c n7 d7) : 0 < d7 ∧ wlen n7 ≤ 100 ∧ wlen d7 ≤ 100 ∧ fq c n7 d7 = tailQ n m (k + 1) := by
 subst ha; subst hb
 rw [Nat.mul_one, Nat.one_mul] at hs
 have h1 := hs.num
 refine ⟨hs.pos hp, Nat.le_trans (wlen_mono h1.1) (by omega), Nat.le_trans (wlen_mono h1.2) (by omega), ?_⟩
 rw [hs.fq hp]; rfl
theorem of_lt_size {w : World} {base : Nat} {v : Value} {ts : List F3} (h : OF w base v ts) (h0 : 0 < ts.length) : base ≤ w.heap.size := by
 obtain ⟨h1, ⟨_, h2⟩ | ⟨g, cap, cur, e, hb, hc, _⟩⟩ := h.own
 ·omega
 ·have := (Array.getElem?_eq_some_iff.1 hc).1; omega
theorem OF.setu {w : World} {base : Nat} {o : Value} {ts : List F3} (h : OF w base o ts) {b : Nat} (hb : b < base) (j : Nat) (u : Value) : OF (w.setCell ⟨b, j, none⟩ u) base o ts := by
 refine ⟨ownsRow_setCell_below h.own (a := ⟨b, j, none⟩) hb u, fun g hg j' u' hu => h.q g hg j' u' ?_⟩
 have h1 := (h.own.lt g hg).1
 rw [World.cell?_setCell_other _ _ _ _ (by intro e; cases e; omega)] at hu
 exact hu
set_option maxRecDepth 100000 in
set_option maxHeartbeats 16000000 in
theorem tails_at (n m : Nat) (hn : n ≤ 60) (hm : m ≤ 1000) (w : World) : Calls Tryz.prog 20 #[.int .i64 (n : Int), .int .i64 (m : Int)] w (fun e w' => ∃ a c us, e = .returned (.slice a us.length c) ∧ Sl w' (.slice a us.length c) us.length (us.flatMap f3L) ∧ TLs w' us n m (n + 1) ∧ Below w.heap.size w w') := by
 have HI := Lib.hid fr_info
 obtain ⟨m2, hm2⟩ : ∃ z, 1000 - m = z := ⟨_, rfl⟩
 have hmi : (1000 : Int) - (m : Int) = (m2 : Int) := by omega
 have hm2b : m2 ≤ 1000 := by omega
 have HM2 := Lib.hid hm2
 clear hm2
 have hp1 := fun W9 => powers_at 1000 n (by omega) hn W9
 simp only [show ((1000 : Nat) : Int) = 1000 from rfl] at hp1
 have HP1 := Lib.hid hp1
 have hf0 := fun W9 => fnat_at 0 (by decide) W9
 simp only [show ((0 : Nat) : Int) = 0 from rfl] at hf0
 have HF0 := Lib.hid hf0
 clear hp1 hf0
 go_enter Tryz.func20, Tryz.ntmps20
 have HW : Hid (Below w.heap.size w w) := Lib.hid (Below.refl _ _)
 go_wp2_with fail
 refine (ways_at n hn w).mono ?_
 rintro e w1' ⟨ac, cc, tcs, rfl, hsc, hlc, hbz⟩
 replace HW := Lib.hid (ext_trans HW.out hbz)
 clear hbz
 have HSc : Hid (Sl w1' (.slice ac tcs.length cc) tcs.length (tcs.flatMap f3L)) := Lib.hid hsc
 clear hsc
 have HLc : Hid (WL w1' tcs (rwL n)) := Lib.hid hlc
 clear hlc
 go_wp2_with fail
 refine (powers_at m n hm hn w1').mono ?_
 rintro e w2' ⟨ap, cp, tps, rfl, hsp, hlp, hbz⟩
 replace HSc := Lib.hid (HSc.out.ext hbz)
 replace HLc := Lib.hid (HLc.out.ext hbz)
 replace HW := Lib.hid (ext_trans HW.out hbz)
 clear hbz
 have HSp : Hid (Sl w2' (.slice ap tps.length cp) tps.length (tps.flatMap f3L)) := Lib.hid hsp
 clear hsp
 have HLp : Hid (WL w2' tps (pwL m n)) := Lib.hid hlp
 clear hlp
 go_wp2_with fail
 refine (powers_at m2 n hm2b hn w2').mono ?_
 rintro e w3' ⟨aq, cq, tqs, rfl, hsq, hlq, hbz⟩
 replace HSc := Lib.hid (HSc.out.ext hbz)
 replace HLc := Lib.hid (HLc.out.ext hbz)
 replace HSp := Lib.hid (HSp.out.ext hbz)
 replace HLp := Lib.hid (HLp.out.ext hbz)
 replace HW := Lib.hid (ext_trans HW.out hbz)
 clear hbz
 have HSq : Hid (Sl w3' (.slice aq tqs.length cq) tqs.length (tqs.flatMap f3L)) := Lib.hid hsq
 clear hsq
 have HLq : Hid (WL w3' tqs (pwL m2 n)) := Lib.hid hlq
 clear hlq
 go_wp2_with fail
 refine (HP1.out w3').mono ?_
 rintro e w4' ⟨al, cl, tls, rfl, hsl, hll, hbz⟩
 replace HSc := Lib.hid (HSc.out.ext hbz)
 replace HLc := Lib.hid (HLc.out.ext hbz)
 replace HSp := Lib.hid (HSp.out.ext hbz)
 replace HLp := Lib.hid (HLp.out.ext hbz)
 replace HSq := Lib.hid (HSq.out.ext hbz)
 replace HLq := Lib.hid (HLq.out.ext hbz)
 replace HW := Lib.hid (ext_trans HW.out hbz)
 clear hbz
 have HSl : Hid (Sl w4' (.slice al tls.length cl) tls.length (tls.flatMap f3L)) := Lib.hid hsl
 clear hsl
 have HLl : Hid (WL w4' tls (pwL 1000 n)) := Lib.hid hll
 clear hll
 have hnc : tcs.length = n + 1 := by rw [HLc.out.len, rwL_len]
 have hnp : tps.length = n + 1 := by rw [HLp.out.len, pwL_len]
 have hnq : tqs.length = n + 1 := by rw [HLq.out.len, pwL_len]
 have hnl : tls.length = n + 1 := by rw [HLl.out.len, pwL_len]
 obtain ⟨te, hte⟩ : ∃ t, tls[n]? = some t := ⟨_, List.getElem?_eq_getElem (by omega)⟩
 obtain ⟨pbe, poe, hpe, hcse⟩ := (HSl.out).elem (f := f3L) f3_len (by omega : 0 < 3) hte
 subst hpe
 have ee0 : w4'.cell? ⟨pbe, poe + n * 3, none⟩ = some (.bool te.b) := hcse 0 _ rfl
 have ee1 : w4'.cell? ⟨pbe, poe + n * 3 + 1, none⟩ = some (.slice te.a1 te.n1 te.c1) := hcse 1 _ rfl
 have ee2 : w4'.cell? ⟨pbe, poe + n * 3 + 2, none⟩ = some (.slice te.a2 te.n2 te.c2) := hcse 2 _ rfl
 clear hcse
 have HTE := Lib.hid (HLl.out.ok n te (1000 ^ n) hte (pwL_get 1000 (Nat.le_refl n)))
 clear hte
 have hnl1 : (n : Int) < (tls.length : Int) := by omega
 have hn0 : (0 : Int) ≤ (n : Int) := Int.natCast_nonneg _
 have hn3 : (n : Int).toNat = n := by omega
 have HNN := Lib.hid (And.intro hnc (And.intro hnp hnq))
 have HWV := HW
 clear HW hnc hnp hnq hnl
 obtain ⟨Z, hZ⟩ : ∃ Z9, Z9 = w4' := ⟨_, rfl⟩
 rw [← hZ] at HSc HSp HSq HLc HLp HLq HWV
 have HW : Hid (Below Z.heap.size Z w4') := by rw [hZ]; exact Lib.hid (Below.refl _ _)
 clear hZ
 have HXe : Hid (FX w4' te (1000 ^ n) 1) := Lib.hid (HTE.out.2)
 go_upto_region 3 with (fail)
 refine wp_frs1 fun w5' hbz hR0 => ?_
 have le_l : Z.heap.size ≤ w4'.heap.size := HW.out.size
 replace HXe := Lib.hid (HXe.out.ext hbz)
 replace HW := Lib.hid (ext_trans HW.out hbz)
 clear ee0 ee1 ee2
 clear hbz
 have HR_l : Hid (RH w5' w4'.heap.size #[.bool te.b, .slice te.a1 te.n1 te.c1, .slice te.a2 te.n2 te.c2] 48) := Lib.hid hR0
 clear hR0
 generalize w4'.heap.size = b_l at *
 go_wp2_with fail
 refine (HF0.out w5').mono ?_
 rintro e w6' ⟨t0, rfl, hb0, hx0, hbz⟩
 have HB0 := Lib.hid hb0
 clear hb0
 replace HR_l := Lib.hid (HR_l.out.ext hbz)
 replace HXe := Lib.hid (HXe.out.ext hbz)
 replace HW := Lib.hid (ext_trans HW.out hbz)
 clear hbz
 have HX0 : Hid (FX w6' t0 0 1) := Lib.hid hx0
 clear hx0
 go_upto_region 4 with (fail)
 refine wp_frs1 fun w7' hbz hR0 => ?_
 have lt_l_u : b_l < w6'.heap.size := HR_l.out.lt
 have le_u : Z.heap.size ≤ w6'.heap.size := HW.out.size
 replace HR_l := Lib.hid (HR_l.out.ext hbz)
 replace HXe := Lib.hid (HXe.out.ext hbz)
 replace HX0 := Lib.hid (HX0.out.ext hbz)
 replace HW := Lib.hid (ext_trans HW.out hbz)
 clear hbz
 have HR_u : Hid (RH w7' w6'.heap.size #[.bool t0.b, .slice t0.a1 t0.n1 t0.c1, .slice t0.a2 t0.n2 t0.c2] 48) := Lib.hid hR0
 clear hR0
 generalize w6'.heap.size = b_u at *
 obtain ⟨c_u_0, c_u_1, c_u_2⟩ := zs3 HR_u.out
 have hU1 : b_l < w7'.heap.size := HR_l.out.lt
 have hU2 : b_u < w7'.heap.size := HR_u.out.lt
 have hVU : Z.heap.size ≤ w7'.heap.size := HW.out.size
 go_wp2
 go_loopw [10, 11, 31] (fun o _ i wr => ∃ (k : Nat) (us : List F3) (tu : F3), k ≤ n + 1 ∧ i = .int .i64 (k : Int) ∧ Hid (OF wr w7'.heap.size o us) ∧ Hid (TLs wr us n m k) ∧ Hid (tu.b = false) ∧ Hid (w7'.heap.size ≤ wr.heap.size) ∧ (RH wr b_l #[.bool te.b, .slice te.a1 te.n1 te.c1, .slice te.a2 te.n2 te.c2] 48) ∧ (RH wr b_u #[.bool tu.b, .slice tu.a1 tu.n1 tu.c1, .slice tu.a2 tu.n2 tu.c2] 48) ∧ (FX wr te (1000 ^ n) 1) ∧ (FX wr tu (tailN n m k) 1) ∧ (Below Z.heap.size Z wr)) (fun _ _ i _ => n + 1 - (intOf i).toNat)
 case atStart => exact ⟨0, [t0], t0, by omega, rfl, Lib.hid (OF.lit _ _ (Nat.le_refl _) _), Lib.hid (TLs.one (HX0.out.ext (ext_alloc _ _))), HB0, Lib.hid (ext_alloc w7' (.cells #[.bool t0.b, .slice t0.a1 t0.n1 t0.c1, .slice t0.a2 t0.n2 t0.c2] 48)).size, (HR_l.out.ext (ext_alloc _ _)), (HR_u.out.ext (ext_alloc _ _)), (HXe.out.ext (ext_alloc _ _)), (HX0.out.ext (ext_alloc _ _)), (ext_trans HW.out (ext_alloc _ _))⟩
 case round =>
  clear HR_l HR_u HXe HX0 HW HB0
  obtain ⟨k, us, tu, hk, rfl, HO, HT, HBU, HUS, q_HR_l, q_HR_u, q_HXe, q_HX0, q_HW⟩ := hrel
  have HR_l := Lib.hid q_HR_l
  have HR_u := Lib.hid q_HR_u
  have HXe := Lib.hid q_HXe
  have HX0 := Lib.hid q_HX0
  have HW := Lib.hid q_HW
  clear q_HR_l q_HR_u q_HXe q_HX0 q_HW
  clear c_u_0 c_u_1 c_u_2
  generalize hX : wr = X at *
  clear hX
  have HUL : Hid (us.length = k + 1) := Lib.hid HT.out.len
  obtain ⟨b9, d9, hv9, _⟩ := id (Sl.ofOwn HO.out.own)
  subst hv9
  have hni : (n : Int) + 1 = ((n + 1 : Nat) : Int) := by omega
  by_cases hlt : k < n + 1
  ·have HNI := Lib.hid hni
   clear hni
   obtain ⟨j, hj⟩ : ∃ j, n - k = j := ⟨_, rfl⟩
   have hji : (n : Int) - (k : Int) = (j : Int) := by omega
   have hkc : k < tcs.length := by have := HNN.out.1; omega
   have hkp : k < tps.length := by have := HNN.out.2.1; omega
   have hjq : j < tqs.length := by have := HNN.out.2.2; omega
   obtain ⟨tx, htx⟩ : ∃ t, tcs[k]? = some t := ⟨_, List.getElem?_eq_getElem (by omega)⟩
   obtain ⟨pbx, pox, hpx, hcsx⟩ := (HSc.out.ext HW.out).elem (f := f3L) f3_len (by omega : 0 < 3) htx
   subst hpx
   have ex0 : X.cell? ⟨pbx, pox + k * 3, none⟩ = some (.bool tx.b) := hcsx 0 _ rfl
   have ex1 : X.cell? ⟨pbx, pox + k * 3 + 1, none⟩ = some (.slice tx.a1 tx.n1 tx.c1) := hcsx 1 _ rfl
   have ex2 : X.cell? ⟨pbx, pox + k * 3 + 2, none⟩ = some (.slice tx.a2 tx.n2 tx.c2) := hcsx 2 _ rfl
   clear hcsx
   obtain ⟨ty, hty⟩ : ∃ t, tps[k]? = some t := ⟨_, List.getElem?_eq_getElem (by omega)⟩
   obtain ⟨pby, poy, hpy, hcsy⟩ := (HSp.out.ext HW.out).elem (f := f3L) f3_len (by omega : 0 < 3) hty
   subst hpy
   have ey0 : X.cell? ⟨pby, poy + k * 3, none⟩ = some (.bool ty.b) := hcsy 0 _ rfl
   have ey1 : X.cell? ⟨pby, poy + k * 3 + 1, none⟩ = some (.slice ty.a1 ty.n1 ty.c1) := hcsy 1 _ rfl
   have ey2 : X.cell? ⟨pby, poy + k * 3 + 2, none⟩ = some (.slice ty.a2 ty.n2 ty.c2) := hcsy 2 _ rfl
   clear hcsy
   obtain ⟨tz, htz⟩ : ∃ t, tqs[j]? = some t := ⟨_, List.getElem?_eq_getElem (by omega)⟩
   obtain ⟨pbz, poz, hpz, hcsz⟩ := (HSq.out.ext HW.out).elem (f := f3L) f3_len (by omega : 0 < 3) htz
   subst hpz
   have ez0 : X.cell? ⟨pbz, poz + j * 3, none⟩ = some (.bool tz.b) := hcsz 0 _ rfl
   have ez1 : X.cell? ⟨pbz, poz + j * 3 + 1, none⟩ = some (.slice tz.a1 tz.n1 tz.c1) := hcsz 1 _ rfl
   have ez2 : X.cell? ⟨pbz, poz + j * 3 + 2, none⟩ = some (.slice tz.a2 tz.n2 tz.c2) := hcsz 2 _ rfl
   clear hcsz
   have H1 := Lib.hid (HLc.out.ok k tx (chooseN n k) htx (rwL_get (by omega)))
   have H2 := Lib.hid (HLp.out.ok k ty (m ^ k) hty (pwL_get m (by omega)))
   have H3 := Lib.hid (HLq.out.ok j tz (m2 ^ j) htz (pwL_get m2 (by omega)))
   have HTN : Hid (tailN n m k + chooseN n k * m ^ k * m2 ^ j = tailN n m (k + 1)) := Lib.hid (by rw [← HM2.out, ← hj]; rfl)
   have l1 : wlen (chooseN n k) ≤ 100 := wlen_ch hn
   have l2 := wlen_pw hm k
   have l3 := wlen_pw hm2b j
   have l4 := wlen_mul (chooseN n k) (m ^ k)
   have l5 := wlen_mul (chooseN n k * m ^ k) (m2 ^ j)
   have l6 : wlen (tailN n m k) ≤ 61 := Nat.le_trans (wlen_mono (tailN_le n m hm (show k ≤ n + 1 by omega))) (Nat.le_trans (wlen_pw (show 1000 ≤ 1000 by decide) n) (by omega))
   have hk0 : (0 : Int) ≤ (k : Int) := Int.natCast_nonneg _
   have hk1 : (k : Int) < (tcs.length : Int) := by omega
   have hk2 : (k : Int) < (tps.length : Int) := by omega
   have hk3 : (k : Int).toNat = k := by omega
   have hj0 : (0 : Int) ≤ (j : Int) := Int.natCast_nonneg _
   have hj1 : (j : Int) < (tqs.length : Int) := by omega
   have hj3 : (j : Int).toNat = j := by omega
   clear htx hty htz hj hkc hkp hjq
   have HY1 : Hid (FX X tx (chooseN n k) 1) := Lib.hid (H1.out.2.ext HW.out)
   have HY2 : Hid (FX X ty (m ^ k) 1) := Lib.hid (H2.out.2.ext HW.out)
   have HY3 : Hid (FX X tz (m2 ^ j) 1) := Lib.hid (H3.out.2.ext HW.out)
   go_upto_region 8 with (fail)
   obtain ⟨c_u_0, c_u_1, c_u_2⟩ := zs3 HR_u.out
   refine Grow.wp_region_grow 18 [TP.eq (f3V tu), TP.eq (.slice (some ⟨pbx, pox, none⟩) tcs.length cc), TP.eq (.int .i64 ((k : Int))), TP.eq (.pointer (some ⟨pbx, pox + k * 3, none⟩)), TP.eq (f3V tx), TP.eq (.slice (some ⟨pby, poy, none⟩) tps.length cp), TP.eq (.int .i64 ((k : Int))), TP.eq (.pointer (some ⟨pby, poy + k * 3, none⟩)), TP.eq (f3V ty), TP.fc false (chooseN n k * m ^ k) 1, TP.eq (.slice (some ⟨pbz, poz, none⟩) tqs.length cq), TP.eq (.int .i64 ((n : Int))), TP.eq (.int .i64 ((k : Int))), TP.eq (.int .i64 ((j : Int))), TP.eq (.pointer (some ⟨pbz, poz + j * 3, none⟩)), TP.eq (f3V tz), TP.fc false (chooseN n k * m ^ k * m2 ^ j) 1, TP.fc false (tailN n m (k + 1)) 1] [[], [], [], [1, 2], [3], [], [], [5, 6], [7], [4, 8], [], [], [], [11, 12], [10, 13], [14], [9, 15], [0, 16]] (by kernel_rfl) (by kernel_rfl) ⟨?o0g, ?o1g, ?o2g, ?o3g, ?o4g, ?o5g, ?o6g, ?o7g, ?o8g, ?o9g, ?o10g, ?o11g, ?o12g, ?o13g, ?o14g, ?o15g, ?o16g, ?o17g, trivial⟩ ?_
   case o0g =>
    intro w' hb
    have c_u_0' := zzc hb c_u_0
    have c_u_1' := zzc hb c_u_1
    have c_u_2' := zzc hb c_u_2
    show wpList _ _ _ _ _ _
    go_wp2
    exact ⟨rfl, Below.refl _ _, rfl⟩
   case o1g | o2g | o5g | o6g | o10g | o11g | o12g =>
    intro w' hb
    show wpList _ _ _ _ _ _
    go_wp2
    exact ⟨rfl, Below.refl _ _, rfl⟩
   case o3g | o7g | o13g | o14g =>
    intro w' hb v1 hv1 v2 hv2
    obtain rfl : v1 = _ := hv1
    obtain rfl : v2 = _ := hv2
    show wpList _ _ _ _ _ _
    simp only [Grow.dstOf, zz1, zz2, zz3, zz4, Act.put, zz5, zz6, zz7]
    go_wp2
    exact ⟨rfl, Below.refl _ _, rfl⟩
   case o4g | o8g | o15g =>
    intro w' hb v1 hv1
    obtain rfl : v1 = _ := hv1
    have ex0' := zzc hb ex0
    have ex1' := zzc hb ex1
    have ex2' := zzc hb ex2
    have ey0' := zzc hb ey0
    have ey1' := zzc hb ey1
    have ey2' := zzc hb ey2
    have ez0' := zzc hb ez0
    have ez1' := zzc hb ez1
    have ez2' := zzc hb ez2
    show wpList _ _ _ _ _ _
    simp only [Grow.dstOf, zz1, zz2, zz3, zz4, Act.put, zz5, zz6, zz7]
    go_wp2
    exact ⟨rfl, Below.refl _ _, rfl⟩
   case o9g =>
    intro w' hb v1 hv1 v2 hv2
    obtain rfl : v1 = _ := hv1
    obtain rfl : v2 = _ := hv2
    show wpList _ _ _ _ _ _
    simp only [Grow.dstOf, zz1, zz2, zz3, zz4, Act.put, zz5, zz6, zz7]
    go_wp2_with fail
    refine (fwtimes_at tx ty (chooseN n k) (m ^ k) H1.out.1 H2.out.1 (by omega) (by omega) w' (HY1.out.ext hb) (HY2.out.ext hb)).mono ?_
    rintro e wz ⟨t9, rfl, hb9, hx9, hbz⟩
    go_wp2
    exact ⟨⟨t9, rfl, hb9, hx9⟩, hbz, rfl⟩
   case o16g =>
    intro w' hb v1 hv1 v2 hv2
    obtain rfl : v2 = _ := hv2
    obtain ⟨t8, rfl, hb8, hx8⟩ := hv1
    have HB8 := Lib.hid hb8
    clear hb8
    show wpList _ _ _ _ _ _
    simp only [Grow.dstOf, zz1, zz2, zz3, zz4, Act.put, zz5, zz6, zz7]
    go_wp2_with fail
    refine (fwtimes_at t8 tz (chooseN n k * m ^ k) (m2 ^ j) HB8.out H3.out.1 (by omega) (by omega) w' hx8 (HY3.out.ext hb)).mono ?_
    rintro e wz ⟨t9, rfl, hb9, hx9, hbz⟩
    go_wp2
    exact ⟨⟨t9, rfl, hb9, hx9⟩, hbz, rfl⟩
   case o17g =>
    intro w' hb v1 hv1 v2 hv2
    obtain rfl : v1 = _ := hv1
    obtain ⟨t8, rfl, hb8, hx8⟩ := hv2
    have HB8 := Lib.hid hb8
    clear hb8
    show wpList _ _ _ _ _ _
    simp only [Grow.dstOf, zz1, zz2, zz3, zz4, Act.put, zz5, zz6, zz7]
    go_wp2_with fail
    refine ((by have h := fwplus_at tu t8 (tailN n m k) (chooseN n k * m ^ k * m2 ^ j) HBU.out HB8.out (by omega) (by omega) w' (HX0.out.ext hb) hx8; rw [HTN.out] at h; exact h : Calls _ _ _ w' (FcPost w' false (tailN n m (k + 1)) 1))).mono ?_
    rintro e wz ⟨t9, rfl, hb9, hx9, hbz⟩
    go_wp2
    exact ⟨⟨t9, rfl, hb9, hx9⟩, hbz, rfl⟩
   intro w8' hbz u0 hu0 u1 hu1 u2 hu2 u3 hu3 u4 hu4 u5 hu5 u6 hu6 u7 hu7 u8 hu8 u9 hu9 u10 hu10 u11 hu11 u12 hu12 u13 hu13 u14 hu14 u15 hu15 u16 hu16 u17 hu17
   clear hu0 hu1 hu2 hu3 hu4 hu5 hu6 hu7 hu8 hu9 hu10 hu11 hu12 hu13 hu14 hu15 hu16
   replace HO := Lib.hid (HO.out.ext hbz)
   replace HR_l := Lib.hid (HR_l.out.ext hbz)
   replace HR_u := Lib.hid (HR_u.out.ext hbz)
   replace HXe := Lib.hid (HXe.out.ext hbz)
   replace HX0 := Lib.hid (HX0.out.ext hbz)
   replace HT := Lib.hid (HT.out.ext hbz)
   replace HY1 := Lib.hid (HY1.out.ext hbz)
   replace HY2 := Lib.hid (HY2.out.ext hbz)
   replace HY3 := Lib.hid (HY3.out.ext hbz)
   replace HW := Lib.hid (ext_trans HW.out hbz)
   clear ex0 ex1 ex2 ey0 ey1 ey2 ez0 ez1 ez2 c_u_0 c_u_1 c_u_2
   clear hbz
   clear HY1
   clear HY2
   clear HY3
   obtain ⟨t9, rfl, hb9, hx9⟩ := (show ∃ t : F3, u17 = f3V t ∧ t.b = false ∧ FX w8' t (tailN n m (k + 1)) 1 from hu17)
   clear hu17
   have HB9 := Lib.hid hb9
   clear hb9
   have HX9 : Hid (FX w8' t9 (tailN n m (k + 1)) 1) := Lib.hid (hx9)
   clear hx9
   clear HX0
   show wpList _ _ _ _ _ _
   simp only [Act.put, zz5, zz6, zz7]
   obtain ⟨c_u_0, c_u_1, c_u_2⟩ := zs3 HR_u.out
   have f_u_0 := HR_u.out.fre 0
   have f_u_1 := HR_u.out.fre 1
   have f_u_2 := HR_u.out.fre 2
   go_upto_region 9 with (fail)
   obtain ⟨w9', hX⟩ : ∃ Z9, Z9 = (((w8'.setCell ⟨b_u, 0, none⟩ (.bool t9.b)).setCell ⟨b_u, 1, none⟩ (.slice t9.a1 t9.n1 t9.c1)).setCell ⟨b_u, 2, none⟩ (.slice t9.a2 t9.n2 t9.c2)) := ⟨_, rfl⟩
   rw [← hX]
   have n_u : Hid (RH w9' b_u #[.bool t9.b, .slice t9.a1 t9.n1 t9.c1, .slice t9.a2 t9.n2 t9.c2] 48) := by rw [hX]; exact Lib.hid ((((HR_u.out).set 0 (.bool t9.b)).set 1 (.slice t9.a1 t9.n1 t9.c1)).set 2 (.slice t9.a2 t9.n2 t9.c2))
   have n_l : Hid (RH w9' b_l #[.bool te.b, .slice te.a1 te.n1 te.c1, .slice te.a2 te.n2 te.c2] 48) := by rw [hX]; exact Lib.hid (zzo (zzo (zzo (HR_l.out) (by omega)) (by omega)) (by omega))
   have HK_ : ∀ p : Addr, p.block ≠ b_u → w9'.cell? p = w8'.cell? p := fun p hp => by rw [hX]; exact (cs_other' hp).trans ((cs_other' hp).trans (cs_other' hp))
   have n_HXe : Hid (FX w9' te (1000 ^ n) 1) := Lib.hid (HXe.out.far HR_u.out.box (noI_all (by simp [isI])) HK_)
   have n_HT : Hid (TLs w9' us n m k) := Lib.hid (HT.out.far HR_u.out.box (noI_all (by simp [isI])) HK_)
   have n_HX9 : Hid (FX w9' t9 (tailN n m (k + 1)) 1) := Lib.hid (HX9.out.far HR_u.out.box (noI_all (by simp [isI])) HK_)
   have nW : Hid (Below Z.heap.size Z w9') := by rw [hX]; exact Lib.hid (zzw (zzw (zzw (HW.out) (by omega)) (by omega)) (by omega))
   clear c_u_0 c_u_1 c_u_2 f_u_0 f_u_1 f_u_2
   have n_HO : Hid (OF w9' w7'.heap.size (.slice b9 us.length d9) us) := by rw [hX]; exact Lib.hid (OF.setu (OF.setu (OF.setu (HO.out) (b := b_u) (by omega) 0 (.bool t9.b)) (b := b_u) (by omega) 1 (.slice t9.a1 t9.n1 t9.c1)) (b := b_u) (by omega) 2 (.slice t9.a2 t9.n2 t9.c2))
   clear hX HK_ HW HR_l HR_u HXe HT HX9
   have HR_l := n_l; clear n_l
   have HR_u := n_u; clear n_u
   have HXe := n_HXe; clear n_HXe
   have HT := n_HT; clear n_HT
   have HX9 := n_HX9; clear n_HX9
   have HW := nW; clear nW
   replace HO := n_HO
   clear n_HO
   obtain ⟨c_u_0, c_u_1, c_u_2⟩ := zs3 HR_u.out
   obtain ⟨c_l_0, c_l_1, c_l_2⟩ := zs3 HR_l.out
   have l7 : wlen (tailN n m (k + 1)) ≤ 61 := Nat.le_trans (wlen_mono (tailN_le n m hm (show k + 1 ≤ n + 1 by omega))) (Nat.le_trans (wlen_pw (show 1000 ≤ 1000 by decide) n) (by omega))
   have l8 := wlen_pw (show 1000 ≤ 1000 by decide) n
   have hpp : 0 < 1000 ^ n := Nat.pow_pos (by decide)
   have l9 : wlen 1 ≤ 10000000 := Nat.le_trans (wlen_le (k := 1) (by decide)) (by decide)
   go_wp2_with fail
   refine (fover_at t9 te (tailN n m (k + 1)) 1 (1000 ^ n) 1 (by decide) hpp (by omega) l9 (by omega) l9 w9' HX9.out HXe.out).mono ?_
   rintro e w10' ⟨t7, n7, d7, rfl, hs7, hx7, hbz⟩
   have HQ7 := Lib.hid (fq_of HB9.out HTE.out.1 hpp l7 (by omega) hs7)
   clear hs7
   replace HO := Lib.hid (HO.out.ext hbz)
   replace HR_l := Lib.hid (HR_l.out.ext hbz)
   replace HR_u := Lib.hid (HR_u.out.ext hbz)
   replace HXe := Lib.hid (HXe.out.ext hbz)
   replace HT := Lib.hid (HT.out.ext hbz)
   replace HX9 := Lib.hid (HX9.out.ext hbz)
   replace HW := Lib.hid (ext_trans HW.out hbz)
   clear c_u_0 c_u_1 c_u_2 c_l_0 c_l_1 c_l_2
   clear hbz
   have HX7 : Hid (FX w10' t7 n7 d7) := Lib.hid hx7
   clear hx7
   have HOA := Lib.hid (HO.out.ext (ext_alloc w10' (.cells #[.bool t7.b, .slice t7.a1 t7.n1 t7.c1, .slice t7.a2 t7.n2 t7.c2] 48)))
   have HTA := Lib.hid (HT.out.ext (ext_alloc w10' (.cells #[.bool t7.b, .slice t7.a1 t7.n1 t7.c1, .slice t7.a2 t7.n2 t7.c2] 48)))
   have HXA_ := Lib.hid (HX7.out.ext (ext_alloc w10' (.cells #[.bool t7.b, .slice t7.a1 t7.n1 t7.c1, .slice t7.a2 t7.n2 t7.c2] 48)))
   have HAL := Lib.hid (ext_alloc w10' (.cells #[.bool t7.b, .slice t7.a1 t7.n1 t7.c1, .slice t7.a2 t7.n2 t7.c2] 48))
   -- sizes
   go_wp2_with (at_builtin; refine wpList_append_q NI rfl _ _ 49 rfl w7'.heap.size 48 Tryz.underlying49 HI.out rfl (by decide) rfl HOA.out.own rfl (Sl.new w10' #[.bool t7.b, .slice t7.a1 t7.n1 t7.c1, .slice t7.a2 t7.n2 t7.c2] _ 1 1 (by omega) (by decide)) rfl (f3_one t7) (by have := HUL.out; unfold maxLen; omega) (by have := HUL.out; omega) (Nat.le_trans (of_lt_size HO.out (by have := HUL.out; omega)) HAL.out.size) HOA.out.q (by intro u hu; simp [Value.cells] at hu; rcases hu with rfl | rfl | rfl <;> rfl) (f3_ni t7) ?_; intro v7 w7 hown7 hg7 hat7 hq7; have HO7 := Lib.hid (OF.push hown7 hq7); have HT7 := Lib.hid ((HTA.out.keepQ HOA.out.q hg7).snoc HQ7.out (HXA_.out.keepQ HOA.out.q hg7)); clear hat7 hq7)
   have HBB := Lib.hid ((Below.refl w7'.heap.size (w10'.alloc (.cells #[.bool t7.b, .slice t7.a1 t7.n1 t7.c1, .slice t7.a2 t7.n2 t7.c2] 48))).grown hg7 (Nat.le_trans (of_lt_size HO.out (by have := HUL.out; omega)) HAL.out.size) (fun q e => (HOA.out.own.lt q e).1))
   have hl8 := HR_l.out.ext (ext_alloc w10' (.cells #[.bool t7.b, .slice t7.a1 t7.n1 t7.c1, .slice t7.a2 t7.n2 t7.c2] 48))
   have hu8 := HR_u.out.ext (ext_alloc w10' (.cells #[.bool t7.b, .slice t7.a1 t7.n1 t7.c1, .slice t7.a2 t7.n2 t7.c2] 48))
   have n_l : Hid (RH w7 b_l #[.bool te.b, .slice te.a1 te.n1 te.c1, .slice te.a2 te.n2 te.c2] 48) := Lib.hid (by unfold RH; rw [HBB.out.block b_l (by assumption)]; exact hl8)
   have n_u : Hid (RH w7 b_u #[.bool t9.b, .slice t9.a1 t9.n1 t9.c1, .slice t9.a2 t9.n2 t9.c2] 48) := Lib.hid (by unfold RH; rw [HBB.out.block b_u (by assumption)]; exact hu8)
   have n_e := Lib.hid ((HXe.out.ext (ext_alloc w10' (.cells #[.bool t7.b, .slice t7.a1 t7.n1 t7.c1, .slice t7.a2 t7.n2 t7.c2] 48))).keepQ HOA.out.q hg7)
   have n_9 := Lib.hid ((HX9.out.ext (ext_alloc w10' (.cells #[.bool t7.b, .slice t7.a1 t7.n1 t7.c1, .slice t7.a2 t7.n2 t7.c2] 48))).keepQ HOA.out.q hg7)
   have n_w : Hid (Below Z.heap.size Z w7) := Lib.hid ((ext_trans HW.out (ext_alloc w10' (.cells #[.bool t7.b, .slice t7.a1 t7.n1 t7.c1, .slice t7.a2 t7.n2 t7.c2] 48))).grown hg7 (Nat.le_trans HW.out.size HAL.out.size) (fun q e => Nat.le_trans hVU (HOA.out.own.lt q e).1))
   have n_s := Lib.hid (Nat.le_trans (Nat.le_trans (of_lt_size HO.out (by have := HUL.out; omega)) HAL.out.size) HBB.out.size)
   clear hl8 hu8 hown7 hg7
   go_roundw
   case rel => exact ⟨k + 1, us ++ [t7], t9, by omega, by go_num, by simpa using HO7, HT7, HB9, n_s, n_l.out, n_u.out, n_e.out, n_9.out, n_w.out⟩
   case measure => simp [intOf]; omega
  ·obtain rfl : k = n + 1 := by omega
   have HS := Lib.hid (Sl.ofOwn HO.out.own)
   clear hni
   go_wp2
   exact bodyPost_ret (v := .slice b9 us.length d9) (by simp [results, Tryz.results20, go_sem]) rfl ⟨_, _, us, rfl, HS.out, HT.out, ext_trans HWV.out HW.out⟩
end Nt
end Go.Proofs.YtiieckboccbhhaaGreatDoor
namespace Go.Proofs.YtiieckboccbhhaaGreatDoor
open Go.RowKit
namespace Nm
theorem cmpQ_ge {x y : Rat} : 0 ≤ cmpQ x y ↔ y ≤ x := by
  rw [← Rat.not_lt, ← cmpQ_neg]; omega
end Nm
namespace Nt
open _root_.Go.Proofs.YtiieckboccbhhaaGreatDoor.Nm (showN showD Fits show_size ord_show quo_one fits_int cmpQ cmpQ_neg i64_ten)
end Nt
end Go.Proofs.YtiieckboccbhhaaGreatDoor
