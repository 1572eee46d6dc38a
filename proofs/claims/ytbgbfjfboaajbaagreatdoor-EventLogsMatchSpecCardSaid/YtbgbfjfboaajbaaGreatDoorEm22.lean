/- Text of logs: of package event and of the reference. Printed by gen_logt.py. show, Show of the reference. Printed by gen_evw.py. Text of logs: of package event and of the reference. Printed by gen_logt.py. -/
import Derived.Test.YtbgbfjfboaajbaaGreatDoorEm11
import Derived.Test.YtbgbfjfboaajbaaGreatDoorEm21
import Derived.Test.YtbgbfjfboaajbaaGreatDoorEm04
import Derived.Test.YtbgbfjfboaajbaaGreatDoorEm03
import Derived.Test.YtbgbfjfboaajbaaGreatDoorEm18
namespace Go.Proofs.YtbgbfjfboaajbaaGreatDoor
open Go.RowKit
namespace Tx
theorem isb_ext {T e : TypeId} {B b : Nat} {bs : List Value} {w w' : World} (h : Lib.IsBuilder T e B b bs w) (hb : Below w.heap.size w w') : Lib.IsBuilder T e B b bs w' := by
 have go : ∀ p, Lib.BuilderAt T e B b p bs w → Lib.BuilderAt T e B b p bs w' := fun p h => by
  have hlt := h.lt
  obtain ⟨h1, v, h2, h3, h4⟩ := h
  exact ⟨h1, v, by rw [hb.block b hlt]; exact h2, ownsRow_ext h3 hb, h4⟩
 rcases h with h | h
 ·exact .inl (go _ h)
 ·exact .inr (go _ h)
theorem wp_bld {P : Program} {c : Code} {Q : Exit → Act → World → Prop} {a : Act} {w : World} {T e : TypeId} (h : ∀ W, Below w.heap.size w W → Lib.IsBuilder T e w.heap.size w.heap.size [] W → c.wp P Q a W) : c.wp P Q a (w.alloc (.cells #[.pointer none, .slice none 0 0] T)) := h _ (ext_alloc _ _) (Lib.fresh_isBuilder T e w)
theorem takeE_small {l : List Ev} (h : checkL l = 0) (k : Nat) : (textE (l.take k)).length ≤ 6020000 := by
 obtain ⟨h1, _, h2⟩ := checkL_good h
 have h3 := textE_len (l := l.take k) (fun m hm => rightE_of (h2 m (List.mem_of_mem_take hm)))
 have h4 : (l.take k).length ≤ 20000 := Nat.le_trans (List.length_take_le' _ _) h1
 have h5 : (l.take k).length * 301 ≤ 20000 * 301 := Nat.mul_le_mul_right _ h4
 omega
theorem lineE_app {e : Ev} {st : ByteArray} (h : st = stB (showE e)) : st ++ (⟨#[10]⟩ : ByteArray) = stB (lineE e) := by
 subst h
 apply ByteArray.ext
 simp [stB, lineE]
set_option maxRecDepth 100000 in
set_option maxHeartbeats 16000000 in
theorem evText_at (l : List Ev) (hok : ∀ e ∈ l, e.ok) (a : Option Addr) (c : Nat) (w : World) (hs : Sl w (.slice a l.length c) l.length (l.flatMap evL)) (ht : Tb w) : Calls Tryz.prog 4 #[.slice a l.length c] w fun e w' => e = .returned (.tuple #[.string (stB (ltT l)), .int .i64 (ltF l)]) ∧ Below w.heap.size w w' := by
 have HOK := Lib.hid hok
 have HS := Lib.hid hs
 have HT0 := Lib.hid ht
 clear hok hs ht
 go_enter Tryz.func4, Tryz.ntmps4
 go_wp2_with fail
 refine (event_CheckLog l HOK.out a c w HS.out).mono ?_
 rintro e w1 ⟨rfl, hb1⟩
 obtain ⟨f, hf⟩ : ∃ z, checkL l = z := ⟨_, rfl⟩
 have HF := Lib.hid hf
 rw [hf]
 have hl : l.length ≤ 9223372036854775807 := by obtain ⟨_, _, hv, h1, h2, _⟩ := HS.out; cases hv; unfold maxLen at h2; omega
 clear hf
 by_cases h0 : f = 0
 ·subst h0
  have HA := Lib.hid (checkL_good HF.out)
  go_upto_region 5 with (fail)
  refine wp_bld (e := 5) fun X0 hbX0 hB0 => ?_
  go_wp2
  go_loopw [15] (fun i wr => ∃ k : Nat, k ≤ l.length ∧ i = .int .i64 k ∧ Hid (Lib.IsBuilder 36 5 w1.heap.size w1.heap.size (Lib.byteCells (textE (l.take k))) wr) ∧ Below w1.heap.size w1 wr) (fun i _ => l.length - (intOf i).toNat)
  case atStart => exact ⟨0, by omega, rfl, Lib.hid hB0, hbX0⟩
  case round =>
   obtain ⟨k, hk, rfl, HB, hbr⟩ := hrel
   have hlk := takeE_small HF.out k
   by_cases hlt : k < l.length
   ·have hgk := List.getElem?_eq_getElem hlt
    have hmr := rightE_of (HA.out.2.2 _ (List.getElem_mem hlt))
    generalize l[k] = m at hgk hmr
    have HMR := Lib.hid hmr
    have HTK := Lib.hid (textE_take hgk)
    obtain ⟨b, o, rfl, e0, e1, e2, e3, e4, e5, e6, e7⟩ := event_cells (HS.out.ext (ext_trans hb1 hbr)) hgk
    have hk0 : (0 : Int) ≤ (k : Int) := Int.natCast_nonneg _
    have hk1 : (k : Int) < (l.length : Int) := by omega
    have hsl9 := show_len hmr
    have HSH := Lib.hid (fun W9 t9 => evshow_at m HMR.out W9 t9)
    obtain ⟨st, hst⟩ : ∃ z, stB (showE m) = z := ⟨_, rfl⟩
    rw [hst] at HSH
    have HST := Lib.hid hst
    have hzs : st.size ≤ 300 := by rw [← hst, stB_size]; exact hsl9
    clear hgk hmr hst hsl9
    go_upto_region 8 with (fail)
    clear e0 e1 e2 e3 e4 e5 e6 e7
    refine wp_box1 fun X hszX hbX hM => ?_
    obtain ⟨_, hM2⟩ := id hM
    clear hM hszX
    have HB2 := Lib.hid (isb_ext HB.out hbX)
    have hb6 := ext_trans hbr hbX
    clear HB hbr hbX
    have hs2 : (⟨#[10]⟩ : ByteArray).size = 1 := rfl
    have hs3 := ByteArray.size_append (a := st) (b := (⟨#[10]⟩ : ByteArray))
    go_wp2_with fail
    refine (HSH.out X (HT0.out.ext (ext_trans hb1 hb6))).mono ?_
    rintro e w5 ⟨rfl, hb5⟩
    have HB3 := Lib.hid (isb_ext HB2.out hb5)
    have hb7 := ext_trans hb6 hb5
    clear HB2 hb6 hb5 hM2
    go_wp2_with fail
    refine (bld_write w1.heap.size w1.heap.size _ (st ++ (⟨#[10]⟩ : ByteArray)) w5 HB3.out (by rw [Lib.byteCells_length]; omega) hb7.size).mono ?_
    rintro e w8 ⟨rfl, hB8, hb8⟩
    have hb9 := hb7.trans hb8
    have HB8 : Hid (Lib.IsBuilder 36 5 w1.heap.size w1.heap.size (Lib.byteCells (textE (l.take (k + 1)))) w8) := Lib.hid (by
     rw [HTK.out, Lib.byteCells_append]
     rw [lineE_app HST.out.symm, Lib.strCells_eq] at hB8
     exact hB8)
    clear hB8 hb8 hb7 HB3 hs3
    go_wp2
    go_roundw
    case rel => exact ⟨k + 1, by omega, by go_num, HB8, hb9⟩
    case measure => simp [intOf]; omega
   ·have HT9 : Hid (l.take k = l) := Lib.hid (List.take_of_length_le (by omega))
    rw [HT9.out] at HB hlk
    have hle := @Lib.byteCells_length (textE l)
    obtain ⟨n, hn⟩ : ∃ z, (textE l).length = z := ⟨_, rfl⟩
    have HNL := Lib.hid hn
    rw [hn] at hle hlk
    clear hn
    go_wp2_with fail
    refine (Tryz.Builder_Len w1.heap.size w1.heap.size _ wr HB.out).mono ?_
    rintro e wq ⟨rfl, hwq⟩
    obtain rfl := hwq.symm
    rw [hle]
    by_cases hlong : 3000000 < n
    ·have hlong' : (3000000 : Int) < (n : Int) := by omega
     have HN : Hid (ltF l = 2 ∧ ltT l = []) := Lib.hid (by
      have h9 : ltF l = 2 := by unfold ltF; rw [if_neg (by simp [HF.out]), HNL.out, if_pos hlong]
      exact ⟨h9, by unfold ltT; rw [if_neg (by rw [h9]; decide)]⟩)
     clear hlong
     go_wp2
     exact bodyPost_ret (v := .tuple #[.string ⟨#[]⟩, .int .i64 2]) (by simp [results, Tryz.results4, go_sem]) rfl ⟨by rw [HN.out.1, HN.out.2]; rfl, ext_trans hb1 hbr⟩
    ·have hlong' : ¬ (3000000 : Int) < (n : Int) := by omega
     have HN : Hid (ltF l = 0 ∧ ltT l = textE l) := Lib.hid (by
      have h9 : ltF l = 0 := by unfold ltF; rw [if_neg (by simp [HF.out]), HNL.out, if_neg hlong]
      exact ⟨h9, by unfold ltT; rw [if_pos h9]⟩)
     clear hlong
     go_wp2_with fail
     refine (Tryz.Builder_String_any w1.heap.size w1.heap.size _ wr HB.out hbr.size).mono ?_
     rintro e w8 ⟨rfl, hb8⟩
     have hb9 := ext_trans hb1 (hbr.trans hb8)
     obtain ⟨st, hst⟩ : ∃ z, (⟨(textE l).toArray⟩ : ByteArray) = z := ⟨_, rfl⟩
     have HST : Hid (st = stB (ltT l)) := Lib.hid (by rw [HN.out.2, ← hst]; rfl)
     rw [hst]
     clear hst hb8
     go_wp2
     exact bodyPost_ret (v := .tuple #[.string st, .int .i64 0]) (by simp [results, Tryz.results4, go_sem]) rfl ⟨by rw [HST.out, HN.out.1], hb9⟩
 ·have hne : (f != 0) = true := by simpa using h0
  have HN : Hid (ltF l = f ∧ ltT l = []) := Lib.hid (by
   have h9 : ltF l = f := by unfold ltF; rw [if_pos (by rw [HF.out]; exact h0), HF.out]
   exact ⟨h9, by unfold ltT; rw [if_neg (by rw [h9]; exact h0)]⟩)
  clear h0
  go_wp2
  exact bodyPost_ret (v := .tuple #[.string ⟨#[]⟩, .int .i64 f]) (by simp [results, Tryz.results4, go_sem]) rfl ⟨by rw [HN.out.1, HN.out.2]; rfl, hb1⟩
end Tx
end Go.Proofs.YtbgbfjfboaajbaaGreatDoor
namespace Go.Proofs.YtbgbfjfboaajbaaGreatDoor
open Go.RowKit
namespace Tx
open _root_.Go.Proofs.YtbgbfjfboaajbaaGreatDoor.Nm
open _root_.Go.Proofs.YtbgbfjfboaajbaaGreatDoor.Nt (RH RH.cell RH.box RH.lt RH.new RH.ext RH.fre RH.set RH.other)
set_option maxRecDepth 100000 in
set_option maxHeartbeats 16000000 in
theorem refshowE_at (e : Ev) (h : RightE e) (w : World) (ht : Tb w) : Calls Tryz.prog 15 #[.agg (evC e)] w fun r w' => r = .returned (.string (stB (showE e))) ∧ Below w.heap.size w w' := by
 have HT0 := Lib.hid ht
 obtain ⟨sh, nu, ki, ti, ke, na, ar, nn⟩ := e
 obtain ⟨g1, g2, g3, g4⟩ := h
 simp only at g1 g2 g3 g4
 have hz1 : sh.size ≤ 40 := by
  have h9 : sh.data.toList.length = sh.size := Array.length_toList
  have := (name_words g1).2.2; omega
 have HK := Lib.hid g4
 obtain ⟨sn, hqsn⟩ : ∃ z, stB (itoaS nu) = z := ⟨_, rfl⟩
 have hzsn : sn.size ≤ 14 := by rw [← hqsn, stB_size]; exact itoaS_length (by omega)
 have HIsn := Lib.hid (fun W9 t9 => (by have h9 := itoaI_at (nu) (by omega) (by omega) W9 t9; rw [hqsn] at h9; exact h9 : Calls Tryz.prog 28 #[.int .i64 (nu)] W9 fun e w' => e = .returned (.string sn) ∧ Below W9.heap.size W9 w'))
 have HQsn := Lib.hid hqsn
 clear hqsn
 obtain ⟨st, hqst⟩ : ∃ z, stB (itoaS ti) = z := ⟨_, rfl⟩
 have hzst : st.size ≤ 14 := by rw [← hqst, stB_size]; exact itoaS_length (by omega)
 have HIst := Lib.hid (fun W9 t9 => (by have h9 := itoaI_at (ti) (by omega) (by omega) W9 t9; rw [hqst] at h9; exact h9 : Calls Tryz.prog 28 #[.int .i64 (ti)] W9 fun e w' => e = .returned (.string st) ∧ Below W9.heap.size W9 w'))
 have HQst := Lib.hid hqst
 clear hqst
 clear ht g1 g2 g3 g4
 go_enter Tryz.func15, Tryz.ntmps15
 go_upto_region 1 with (fail)
 refine wp_vr1 fun w1' hbz hR0 => ?_
 have HR_v : Hid (RH w1' w.heap.size #[.string sh, .int .i64 (nu), .int .i64 (ki), .int .i64 (ti), .string ke, .string na, .int .i64 (ar), .int .i64 (nn)] 31) := Lib.hid hR0
 have HW := Lib.hid hbz
 clear hbz hR0
 have c_v_0 : w1'.cell? ⟨w.heap.size, 0, none⟩ = some (.string sh) := (HR_v.out.cell 0).trans rfl
 have c_v_1 : w1'.cell? ⟨w.heap.size, 1, none⟩ = some (.int .i64 (nu)) := (HR_v.out.cell 1).trans rfl
 have c_v_2 : w1'.cell? ⟨w.heap.size, 2, none⟩ = some (.int .i64 (ki)) := (HR_v.out.cell 2).trans rfl
 have c_v_3 : w1'.cell? ⟨w.heap.size, 3, none⟩ = some (.int .i64 (ti)) := (HR_v.out.cell 3).trans rfl
 have c_v_4 : w1'.cell? ⟨w.heap.size, 4, none⟩ = some (.string ke) := (HR_v.out.cell 4).trans rfl
 have c_v_5 : w1'.cell? ⟨w.heap.size, 5, none⟩ = some (.string na) := (HR_v.out.cell 5).trans rfl
 have c_v_6 : w1'.cell? ⟨w.heap.size, 6, none⟩ = some (.int .i64 (ar)) := (HR_v.out.cell 6).trans rfl
 have c_v_7 : w1'.cell? ⟨w.heap.size, 7, none⟩ = some (.int .i64 (nn)) := (HR_v.out.cell 7).trans rfl
 refine Grow.wp_region_grow 12 [TP.eq (.pointer (some ⟨w.heap.size, 0, none⟩)), TP.eq (.string sh), TP.eq (.string (sh ++ (⟨#[32]⟩ : ByteArray))), TP.eq (.pointer (some ⟨w.heap.size, 1, none⟩)), TP.eq (.int .i64 (nu)), TP.eq (.string sn), TP.eq (.string (sh ++ (⟨#[32]⟩ : ByteArray) ++ sn)), TP.eq (.string (sh ++ (⟨#[32]⟩ : ByteArray) ++ sn ++ (⟨#[32]⟩ : ByteArray))), TP.eq (.pointer (some ⟨w.heap.size, 3, none⟩)), TP.eq (.int .i64 (ti)), TP.eq (.string st), TP.eq (.string (sh ++ (⟨#[32]⟩ : ByteArray) ++ sn ++ (⟨#[32]⟩ : ByteArray) ++ st))] [[], [0], [1], [], [3], [4], [2, 5], [6], [], [8], [9], [7, 10]] (by kernel_rfl) (by kernel_rfl) ⟨?o0g, ?o1g, ?o2g, ?o3g, ?o4g, ?o5g, ?o6g, ?o7g, ?o8g, ?o9g, ?o10g, ?o11g, trivial⟩ ?_
 case o0g | o3g | o8g =>
  intro w' hb
  show wpList _ _ _ _ _ _
  go_wp2
  exact ⟨rfl, Below.refl _ _, rfl⟩
 case o1g =>
  intro w' hb v1 hv1
  obtain rfl : v1 = _ := hv1
  have c_v_0' := zzc hb c_v_0
  show wpList _ _ _ _ _ _
  simp only [Grow.dstOf, zz1, zz3, zz4, Act.put, zz5, zz6, zz7]
  go_wp2
  exact ⟨rfl, Below.refl _ _, rfl⟩
 case o2g | o7g =>
  intro w' hb v1 hv1
  obtain rfl : v1 = _ := hv1
  show wpList _ _ _ _ _ _
  simp only [Grow.dstOf, zz1, zz2, zz3, zz4, Act.put, zz5, zz6, zz7]
  go_wp2
  exact ⟨rfl, Below.refl _ _, rfl⟩
 case o4g | o9g =>
  intro w' hb v1 hv1
  obtain rfl : v1 = _ := hv1
  have c_v_1' := zzc hb c_v_1
  have c_v_3' := zzc hb c_v_3
  show wpList _ _ _ _ _ _
  simp only [Grow.dstOf, zz1, zz2, zz3, zz4, Act.put, zz5, zz6, zz7]
  go_wp2
  exact ⟨rfl, Below.refl _ _, rfl⟩
 case o5g =>
  intro w' hb v1 hv1
  obtain rfl : v1 = _ := hv1
  show wpList _ _ _ _ _ _
  simp only [Grow.dstOf, zz1, zz2, zz3, zz4, Act.put, zz5, zz6, zz7]
  go_wp2_with fail
  refine (HIsn.out w' (HT0.out.ext (ext_trans HW.out hb))).mono ?_
  rintro e wz ⟨rfl, hbz⟩
  go_wp2
  exact ⟨rfl, hbz, rfl⟩
 case o6g | o11g =>
  intro w' hb v1 hv1 v2 hv2
  obtain rfl : v1 = _ := hv1
  obtain rfl : v2 = _ := hv2
  show wpList _ _ _ _ _ _
  simp only [Grow.dstOf, zz1, zz2, zz3, zz4, Act.put, zz5, zz6, zz7]
  go_wp2
  exact ⟨rfl, Below.refl _ _, rfl⟩
 case o10g =>
  intro w' hb v1 hv1
  obtain rfl : v1 = _ := hv1
  show wpList _ _ _ _ _ _
  simp only [Grow.dstOf, zz1, zz2, zz3, zz4, Act.put, zz5, zz6, zz7]
  go_wp2_with fail
  refine (HIst.out w' (HT0.out.ext (ext_trans HW.out hb))).mono ?_
  rintro e wz ⟨rfl, hbz⟩
  go_wp2
  exact ⟨rfl, hbz, rfl⟩
 intro w2' hbz u0 hu0 u1 hu1 u2 hu2 u3 hu3 u4 hu4 u5 hu5 u6 hu6 u7 hu7 u8 hu8 u9 hu9 u10 hu10 u11 hu11
 obtain rfl : u11 = _ := hu11
 clear hu0 hu1 hu2 hu3 hu4 hu5 hu6 hu7 hu8 hu9 hu10
 replace HR_v := Lib.hid (HR_v.out.ext hbz)
 replace HW := Lib.hid (ext_trans HW.out hbz)
 clear c_v_0 c_v_1 c_v_2 c_v_3 c_v_4 c_v_5 c_v_6 c_v_7
 clear hbz
 show wpList _ _ _ _ _ _
 simp only [Act.put, zz5, zz6, zz7]
 obtain ⟨t0, ht0⟩ : ∃ z, sh ++ (⟨#[32]⟩ : ByteArray) ++ sn ++ (⟨#[32]⟩ : ByteArray) ++ st = z := ⟨_, rfl⟩
 have hzt : t0.size ≤ 70 := by
  rw [← ht0]
  simp only [ByteArray.size_append]
  have h9 : (⟨#[32]⟩ : ByteArray).size = 1 := rfl
  omega
 rw [ht0]
 have HT := Lib.hid ht0
 clear ht0 HIsn HIst hzsn hzst hz1
 rcases HK.out with ⟨rfl, -⟩ | ⟨rfl, g5, g6, g7, g8⟩ | ⟨rfl, g5, g6, g7, g8⟩
 ·clear HK
  have c_v_0 : w2'.cell? ⟨w.heap.size, 0, none⟩ = some (.string sh) := (HR_v.out.cell 0).trans rfl
  have c_v_1 : w2'.cell? ⟨w.heap.size, 1, none⟩ = some (.int .i64 (nu)) := (HR_v.out.cell 1).trans rfl
  have c_v_2 : w2'.cell? ⟨w.heap.size, 2, none⟩ = some (.int .i64 (3)) := (HR_v.out.cell 2).trans rfl
  have c_v_3 : w2'.cell? ⟨w.heap.size, 3, none⟩ = some (.int .i64 (ti)) := (HR_v.out.cell 3).trans rfl
  have c_v_4 : w2'.cell? ⟨w.heap.size, 4, none⟩ = some (.string ke) := (HR_v.out.cell 4).trans rfl
  have c_v_5 : w2'.cell? ⟨w.heap.size, 5, none⟩ = some (.string na) := (HR_v.out.cell 5).trans rfl
  have c_v_6 : w2'.cell? ⟨w.heap.size, 6, none⟩ = some (.int .i64 (ar)) := (HR_v.out.cell 6).trans rfl
  have c_v_7 : w2'.cell? ⟨w.heap.size, 7, none⟩ = some (.int .i64 (nn)) := (HR_v.out.cell 7).trans rfl
  have HN := Lib.hid (by have h9 := show_mark sh nu ti ke na ar nn; rw [HQsn.out, HQst.out, HT.out] at h9; exact h9 : t0 ++ (⟨#[32, 109, 97, 114, 107]⟩ : ByteArray) = stB (showE ⟨sh, nu, 3, ti, ke, na, ar, nn⟩))
  go_wp2
  exact bodyPost_ret (v := .string (t0 ++ ⟨#[32, 109, 97, 114, 107]⟩)) (by simp [results, Tryz.results15, go_sem]) rfl ⟨by rw [HN.out], HW.out⟩
 ·have hz5 : ke.size ≤ 100 := by
   have h9 : ke.data.toList.length = ke.size := Array.length_toList
   have := (key_seen g5).2.2; omega
  have hz6 : na.size ≤ 40 := by
   have h9 : na.data.toList.length = na.size := Array.length_toList
   have := (name_words g6).2.2; omega
  obtain ⟨sx, hqsx⟩ : ∃ z, stB (itoaS ar) = z := ⟨_, rfl⟩
  have hzsx : sx.size ≤ 14 := by rw [← hqsx, stB_size]; exact itoaS_length (by omega)
  have HIsx := Lib.hid (fun W9 t9 => (by have h9 := itoaI_at (ar) (by omega) (by omega) W9 t9; rw [hqsx] at h9; exact h9 : Calls Tryz.prog 28 #[.int .i64 (ar)] W9 fun e w' => e = .returned (.string sx) ∧ Below W9.heap.size W9 w'))
  have HQsx := Lib.hid hqsx
  clear hqsx
  have HN := Lib.hid (by have h9 := show_exp sh nu ti ke na ar nn; rw [HQsn.out, HQst.out, HT.out, HQsx.out] at h9; exact h9 : t0 ++ (⟨#[32, 101, 120, 112, 111, 115, 117, 114, 101, 32]⟩ : ByteArray) ++ ke ++ (⟨#[32]⟩ : ByteArray) ++ na ++ (⟨#[32]⟩ : ByteArray) ++ sx = stB (showE ⟨sh, nu, 1, ti, ke, na, ar, nn⟩))
  clear g5 g6 g7 g8 HK
  have c_v_0 : w2'.cell? ⟨w.heap.size, 0, none⟩ = some (.string sh) := (HR_v.out.cell 0).trans rfl
  have c_v_1 : w2'.cell? ⟨w.heap.size, 1, none⟩ = some (.int .i64 (nu)) := (HR_v.out.cell 1).trans rfl
  have c_v_2 : w2'.cell? ⟨w.heap.size, 2, none⟩ = some (.int .i64 (1)) := (HR_v.out.cell 2).trans rfl
  have c_v_3 : w2'.cell? ⟨w.heap.size, 3, none⟩ = some (.int .i64 (ti)) := (HR_v.out.cell 3).trans rfl
  have c_v_4 : w2'.cell? ⟨w.heap.size, 4, none⟩ = some (.string ke) := (HR_v.out.cell 4).trans rfl
  have c_v_5 : w2'.cell? ⟨w.heap.size, 5, none⟩ = some (.string na) := (HR_v.out.cell 5).trans rfl
  have c_v_6 : w2'.cell? ⟨w.heap.size, 6, none⟩ = some (.int .i64 (ar)) := (HR_v.out.cell 6).trans rfl
  have c_v_7 : w2'.cell? ⟨w.heap.size, 7, none⟩ = some (.int .i64 (nn)) := (HR_v.out.cell 7).trans rfl
  go_upto_region 4 with (fail)
  refine Grow.wp_region_grow 14 [TP.eq (.string (t0)), TP.eq (.string (t0 ++ (⟨#[32, 101, 120, 112, 111, 115, 117, 114, 101, 32]⟩ : ByteArray))), TP.eq (.pointer (some ⟨w.heap.size, 4, none⟩)), TP.eq (.string ke), TP.eq (.string (t0 ++ (⟨#[32, 101, 120, 112, 111, 115, 117, 114, 101, 32]⟩ : ByteArray) ++ ke)), TP.eq (.string (t0 ++ (⟨#[32, 101, 120, 112, 111, 115, 117, 114, 101, 32]⟩ : ByteArray) ++ ke ++ (⟨#[32]⟩ : ByteArray))), TP.eq (.pointer (some ⟨w.heap.size, 5, none⟩)), TP.eq (.string na), TP.eq (.string (t0 ++ (⟨#[32, 101, 120, 112, 111, 115, 117, 114, 101, 32]⟩ : ByteArray) ++ ke ++ (⟨#[32]⟩ : ByteArray) ++ na)), TP.eq (.string (t0 ++ (⟨#[32, 101, 120, 112, 111, 115, 117, 114, 101, 32]⟩ : ByteArray) ++ ke ++ (⟨#[32]⟩ : ByteArray) ++ na ++ (⟨#[32]⟩ : ByteArray))), TP.eq (.pointer (some ⟨w.heap.size, 6, none⟩)), TP.eq (.int .i64 (ar)), TP.eq (.string sx), TP.eq (.string (t0 ++ (⟨#[32, 101, 120, 112, 111, 115, 117, 114, 101, 32]⟩ : ByteArray) ++ ke ++ (⟨#[32]⟩ : ByteArray) ++ na ++ (⟨#[32]⟩ : ByteArray) ++ sx))] [[], [0], [], [2], [1, 3], [4], [], [6], [5, 7], [8], [], [10], [11], [9, 12]] (by kernel_rfl) (by kernel_rfl) ⟨?o0g1, ?o1g1, ?o2g1, ?o3g1, ?o4g1, ?o5g1, ?o6g1, ?o7g1, ?o8g1, ?o9g1, ?o10g1, ?o11g1, ?o12g1, ?o13g1, trivial⟩ ?_
  case o0g1 | o2g1 | o6g1 | o10g1 =>
   intro w' hb
   show wpList _ _ _ _ _ _
   go_wp2
   exact ⟨rfl, Below.refl _ _, rfl⟩
  case o1g1 =>
   intro w' hb v1 hv1
   obtain rfl : v1 = _ := hv1
   show wpList _ _ _ _ _ _
   simp only [Grow.dstOf, zz1, zz3, zz4, Act.put, zz5, zz6, zz7]
   go_wp2
   exact ⟨rfl, Below.refl _ _, rfl⟩
  case o3g1 | o7g1 | o11g1 =>
   intro w' hb v1 hv1
   obtain rfl : v1 = _ := hv1
   have c_v_4' := zzc hb c_v_4
   have c_v_5' := zzc hb c_v_5
   have c_v_6' := zzc hb c_v_6
   show wpList _ _ _ _ _ _
   simp only [Grow.dstOf, zz1, zz2, zz3, zz4, Act.put, zz5, zz6, zz7]
   go_wp2
   exact ⟨rfl, Below.refl _ _, rfl⟩
  case o4g1 | o8g1 | o13g1 =>
   intro w' hb v1 hv1 v2 hv2
   obtain rfl : v1 = _ := hv1
   obtain rfl : v2 = _ := hv2
   show wpList _ _ _ _ _ _
   simp only [Grow.dstOf, zz1, zz2, zz3, zz4, Act.put, zz5, zz6, zz7]
   go_wp2
   exact ⟨rfl, Below.refl _ _, rfl⟩
  case o5g1 | o9g1 =>
   intro w' hb v1 hv1
   obtain rfl : v1 = _ := hv1
   show wpList _ _ _ _ _ _
   simp only [Grow.dstOf, zz1, zz2, zz3, zz4, Act.put, zz5, zz6, zz7]
   go_wp2
   exact ⟨rfl, Below.refl _ _, rfl⟩
  case o12g1 =>
   intro w' hb v1 hv1
   obtain rfl : v1 = _ := hv1
   show wpList _ _ _ _ _ _
   simp only [Grow.dstOf, zz1, zz2, zz3, zz4, Act.put, zz5, zz6, zz7]
   go_wp2_with fail
   refine (HIsx.out w' (HT0.out.ext (ext_trans HW.out hb))).mono ?_
   rintro e wz ⟨rfl, hbz⟩
   go_wp2
   exact ⟨rfl, hbz, rfl⟩
  intro w3' hbz u0 hu0 u1 hu1 u2 hu2 u3 hu3 u4 hu4 u5 hu5 u6 hu6 u7 hu7 u8 hu8 u9 hu9 u10 hu10 u11 hu11 u12 hu12 u13 hu13
  obtain rfl : u13 = _ := hu13
  clear hu0 hu1 hu2 hu3 hu4 hu5 hu6 hu7 hu8 hu9 hu10 hu11 hu12
  replace HR_v := Lib.hid (HR_v.out.ext hbz)
  replace HW := Lib.hid (ext_trans HW.out hbz)
  clear c_v_0 c_v_1 c_v_2 c_v_3 c_v_4 c_v_5 c_v_6 c_v_7
  clear hbz
  show wpList _ _ _ _ _ _
  simp only [Act.put, zz5, zz6, zz7]
  obtain ⟨sz, hsz⟩ : ∃ z, t0 ++ (⟨#[32, 101, 120, 112, 111, 115, 117, 114, 101, 32]⟩ : ByteArray) ++ ke ++ (⟨#[32]⟩ : ByteArray) ++ na ++ (⟨#[32]⟩ : ByteArray) ++ sx = z := ⟨_, rfl⟩
  rw [hsz]
  have HS := Lib.hid hsz
  clear hsz
  go_wp2
  exact bodyPost_ret (v := .string sz) (by simp [results, Tryz.results15, go_sem]) rfl ⟨by rw [← HS.out, HN.out], HW.out⟩
 ·have hz5 : ke.size ≤ 100 := by
   have h9 : ke.data.toList.length = ke.size := Array.length_toList
   have := (key_seen g5).2.2; omega
  have hz6 : na.size ≤ 40 := by
   have h9 : na.data.toList.length = na.size := Array.length_toList
   have := (name_words g6).2.2; omega
  obtain ⟨sx, hqsx⟩ : ∃ z, stB (itoaS nn) = z := ⟨_, rfl⟩
  have hzsx : sx.size ≤ 14 := by rw [← hqsx, stB_size]; exact itoaS_length (by omega)
  have HIsx := Lib.hid (fun W9 t9 => (by have h9 := itoaI_at (nn) (by omega) (by omega) W9 t9; rw [hqsx] at h9; exact h9 : Calls Tryz.prog 28 #[.int .i64 (nn)] W9 fun e w' => e = .returned (.string sx) ∧ Below W9.heap.size W9 w'))
  have HQsx := Lib.hid hqsx
  clear hqsx
  have HN := Lib.hid (by have h9 := show_out sh nu ti ke na ar nn; rw [HQsn.out, HQst.out, HT.out, HQsx.out] at h9; exact h9 : t0 ++ (⟨#[32, 111, 117, 116, 99, 111, 109, 101, 32]⟩ : ByteArray) ++ ke ++ (⟨#[32]⟩ : ByteArray) ++ na ++ (⟨#[32]⟩ : ByteArray) ++ sx = stB (showE ⟨sh, nu, 2, ti, ke, na, ar, nn⟩))
  clear g5 g6 g7 g8 HK
  have c_v_0 : w2'.cell? ⟨w.heap.size, 0, none⟩ = some (.string sh) := (HR_v.out.cell 0).trans rfl
  have c_v_1 : w2'.cell? ⟨w.heap.size, 1, none⟩ = some (.int .i64 (nu)) := (HR_v.out.cell 1).trans rfl
  have c_v_2 : w2'.cell? ⟨w.heap.size, 2, none⟩ = some (.int .i64 (2)) := (HR_v.out.cell 2).trans rfl
  have c_v_3 : w2'.cell? ⟨w.heap.size, 3, none⟩ = some (.int .i64 (ti)) := (HR_v.out.cell 3).trans rfl
  have c_v_4 : w2'.cell? ⟨w.heap.size, 4, none⟩ = some (.string ke) := (HR_v.out.cell 4).trans rfl
  have c_v_5 : w2'.cell? ⟨w.heap.size, 5, none⟩ = some (.string na) := (HR_v.out.cell 5).trans rfl
  have c_v_6 : w2'.cell? ⟨w.heap.size, 6, none⟩ = some (.int .i64 (ar)) := (HR_v.out.cell 6).trans rfl
  have c_v_7 : w2'.cell? ⟨w.heap.size, 7, none⟩ = some (.int .i64 (nn)) := (HR_v.out.cell 7).trans rfl
  go_upto_region 6 with (fail)
  refine Grow.wp_region_grow 14 [TP.eq (.string (t0)), TP.eq (.string (t0 ++ (⟨#[32, 111, 117, 116, 99, 111, 109, 101, 32]⟩ : ByteArray))), TP.eq (.pointer (some ⟨w.heap.size, 4, none⟩)), TP.eq (.string ke), TP.eq (.string (t0 ++ (⟨#[32, 111, 117, 116, 99, 111, 109, 101, 32]⟩ : ByteArray) ++ ke)), TP.eq (.string (t0 ++ (⟨#[32, 111, 117, 116, 99, 111, 109, 101, 32]⟩ : ByteArray) ++ ke ++ (⟨#[32]⟩ : ByteArray))), TP.eq (.pointer (some ⟨w.heap.size, 5, none⟩)), TP.eq (.string na), TP.eq (.string (t0 ++ (⟨#[32, 111, 117, 116, 99, 111, 109, 101, 32]⟩ : ByteArray) ++ ke ++ (⟨#[32]⟩ : ByteArray) ++ na)), TP.eq (.string (t0 ++ (⟨#[32, 111, 117, 116, 99, 111, 109, 101, 32]⟩ : ByteArray) ++ ke ++ (⟨#[32]⟩ : ByteArray) ++ na ++ (⟨#[32]⟩ : ByteArray))), TP.eq (.pointer (some ⟨w.heap.size, 7, none⟩)), TP.eq (.int .i64 (nn)), TP.eq (.string sx), TP.eq (.string (t0 ++ (⟨#[32, 111, 117, 116, 99, 111, 109, 101, 32]⟩ : ByteArray) ++ ke ++ (⟨#[32]⟩ : ByteArray) ++ na ++ (⟨#[32]⟩ : ByteArray) ++ sx))] [[], [0], [], [2], [1, 3], [4], [], [6], [5, 7], [8], [], [10], [11], [9, 12]] (by kernel_rfl) (by kernel_rfl) ⟨?o0g2, ?o1g2, ?o2g2, ?o3g2, ?o4g2, ?o5g2, ?o6g2, ?o7g2, ?o8g2, ?o9g2, ?o10g2, ?o11g2, ?o12g2, ?o13g2, trivial⟩ ?_
  case o0g2 | o2g2 | o6g2 | o10g2 =>
   intro w' hb
   show wpList _ _ _ _ _ _
   go_wp2
   exact ⟨rfl, Below.refl _ _, rfl⟩
  case o1g2 =>
   intro w' hb v1 hv1
   obtain rfl : v1 = _ := hv1
   show wpList _ _ _ _ _ _
   simp only [Grow.dstOf, zz1, zz3, zz4, Act.put, zz5, zz6, zz7]
   go_wp2
   exact ⟨rfl, Below.refl _ _, rfl⟩
  case o3g2 | o7g2 | o11g2 =>
   intro w' hb v1 hv1
   obtain rfl : v1 = _ := hv1
   have c_v_4' := zzc hb c_v_4
   have c_v_5' := zzc hb c_v_5
   have c_v_7' := zzc hb c_v_7
   show wpList _ _ _ _ _ _
   simp only [Grow.dstOf, zz1, zz2, zz3, zz4, Act.put, zz5, zz6, zz7]
   go_wp2
   exact ⟨rfl, Below.refl _ _, rfl⟩
  case o4g2 | o8g2 | o13g2 =>
   intro w' hb v1 hv1 v2 hv2
   obtain rfl : v1 = _ := hv1
   obtain rfl : v2 = _ := hv2
   show wpList _ _ _ _ _ _
   simp only [Grow.dstOf, zz1, zz2, zz3, zz4, Act.put, zz5, zz6, zz7]
   go_wp2
   exact ⟨rfl, Below.refl _ _, rfl⟩
  case o5g2 | o9g2 =>
   intro w' hb v1 hv1
   obtain rfl : v1 = _ := hv1
   show wpList _ _ _ _ _ _
   simp only [Grow.dstOf, zz1, zz2, zz3, zz4, Act.put, zz5, zz6, zz7]
   go_wp2
   exact ⟨rfl, Below.refl _ _, rfl⟩
  case o12g2 =>
   intro w' hb v1 hv1
   obtain rfl : v1 = _ := hv1
   show wpList _ _ _ _ _ _
   simp only [Grow.dstOf, zz1, zz2, zz3, zz4, Act.put, zz5, zz6, zz7]
   go_wp2_with fail
   refine (HIsx.out w' (HT0.out.ext (ext_trans HW.out hb))).mono ?_
   rintro e wz ⟨rfl, hbz⟩
   go_wp2
   exact ⟨rfl, hbz, rfl⟩
  intro w3' hbz u0 hu0 u1 hu1 u2 hu2 u3 hu3 u4 hu4 u5 hu5 u6 hu6 u7 hu7 u8 hu8 u9 hu9 u10 hu10 u11 hu11 u12 hu12 u13 hu13
  obtain rfl : u13 = _ := hu13
  clear hu0 hu1 hu2 hu3 hu4 hu5 hu6 hu7 hu8 hu9 hu10 hu11 hu12
  replace HR_v := Lib.hid (HR_v.out.ext hbz)
  replace HW := Lib.hid (ext_trans HW.out hbz)
  clear c_v_0 c_v_1 c_v_2 c_v_3 c_v_4 c_v_5 c_v_6 c_v_7
  clear hbz
  show wpList _ _ _ _ _ _
  simp only [Act.put, zz5, zz6, zz7]
  obtain ⟨sz, hsz⟩ : ∃ z, t0 ++ (⟨#[32, 111, 117, 116, 99, 111, 109, 101, 32]⟩ : ByteArray) ++ ke ++ (⟨#[32]⟩ : ByteArray) ++ na ++ (⟨#[32]⟩ : ByteArray) ++ sx = z := ⟨_, rfl⟩
  rw [hsz]
  have HS := Lib.hid hsz
  clear hsz
  go_wp2
  exact bodyPost_ret (v := .string sz) (by simp [results, Tryz.results15, go_sem]) rfl ⟨by rw [← HS.out, HN.out], HW.out⟩
end Tx
end Go.Proofs.YtbgbfjfboaajbaaGreatDoor
namespace Go.Proofs.YtbgbfjfboaajbaaGreatDoor
open Go.RowKit
namespace Tx
set_option maxRecDepth 100000 in
set_option maxHeartbeats 16000000 in
theorem refTextE_at (l : List Ev) (hok : ∀ e ∈ l, e.ok) (a : Option Addr) (c : Nat) (w : World) (hs : Sl w (.slice a l.length c) l.length (l.flatMap evL)) (ht : Tb w) : Calls Tryz.prog 5 #[.slice a l.length c] w fun e w' => e = .returned (.tuple #[.string (stB (ltT l)), .int .i64 (ltF l)]) ∧ Below w.heap.size w w' := by
 have HOK := Lib.hid hok
 have HS := Lib.hid hs
 have HT0 := Lib.hid ht
 clear hok hs ht
 go_enter Tryz.func5, Tryz.ntmps5
 go_wp2_with fail
 refine (ref7_CheckLog l HOK.out a c w HS.out).mono ?_
 rintro e w1 ⟨rfl, hb1⟩
 obtain ⟨f, hf⟩ : ∃ z, checkL l = z := ⟨_, rfl⟩
 have HF := Lib.hid hf
 rw [hf]
 have hl : l.length ≤ 9223372036854775807 := by obtain ⟨_, _, hv, h1, h2, _⟩ := HS.out; cases hv; unfold maxLen at h2; omega
 clear hf
 by_cases h0 : f = 0
 ·subst h0
  have HA := Lib.hid (checkL_good HF.out)
  go_upto_region 5 with (fail)
  refine wp_bld (e := 5) fun X0 hbX0 hB0 => ?_
  go_wp2
  go_loopw [15] (fun i wr => ∃ k : Nat, k ≤ l.length ∧ i = .int .i64 k ∧ Hid (Lib.IsBuilder 36 5 w1.heap.size w1.heap.size (Lib.byteCells (textE (l.take k))) wr) ∧ Below w1.heap.size w1 wr) (fun i _ => l.length - (intOf i).toNat)
  case atStart => exact ⟨0, by omega, rfl, Lib.hid hB0, hbX0⟩
  case round =>
   obtain ⟨k, hk, rfl, HB, hbr⟩ := hrel
   have hlk := takeE_small HF.out k
   by_cases hlt : k < l.length
   ·have hgk := List.getElem?_eq_getElem hlt
    have hmr := rightE_of (HA.out.2.2 _ (List.getElem_mem hlt))
    generalize l[k] = m at hgk hmr
    have HMR := Lib.hid hmr
    have HTK := Lib.hid (textE_take hgk)
    obtain ⟨b, o, rfl, e0, e1, e2, e3, e4, e5, e6, e7⟩ := event_cells (HS.out.ext (ext_trans hb1 hbr)) hgk
    have hk0 : (0 : Int) ≤ (k : Int) := Int.natCast_nonneg _
    have hk1 : (k : Int) < (l.length : Int) := by omega
    have hsl9 := show_len hmr
    have HSH := Lib.hid (fun W9 t9 => refshowE_at m HMR.out W9 t9)
    obtain ⟨st, hst⟩ : ∃ z, stB (showE m) = z := ⟨_, rfl⟩
    rw [hst] at HSH
    have HST := Lib.hid hst
    have hzs : st.size ≤ 300 := by rw [← hst, stB_size]; exact hsl9
    clear hgk hmr hst hsl9
    go_upto_region 8 with (fail)
    clear e0 e1 e2 e3 e4 e5 e6 e7
    refine wp_box1 fun X hszX hbX hM => ?_
    obtain ⟨_, hM2⟩ := id hM
    clear hM hszX
    have HB2 := Lib.hid (isb_ext HB.out hbX)
    have hb6 := ext_trans hbr hbX
    clear HB hbr hbX
    have hs2 : (⟨#[10]⟩ : ByteArray).size = 1 := rfl
    have hs3 := ByteArray.size_append (a := st) (b := (⟨#[10]⟩ : ByteArray))
    go_wp2_with fail
    refine (HSH.out X (HT0.out.ext (ext_trans hb1 hb6))).mono ?_
    rintro e w5 ⟨rfl, hb5⟩
    have HB3 := Lib.hid (isb_ext HB2.out hb5)
    have hb7 := ext_trans hb6 hb5
    clear HB2 hb6 hb5 hM2
    go_wp2_with fail
    refine (bld_write w1.heap.size w1.heap.size _ (st ++ (⟨#[10]⟩ : ByteArray)) w5 HB3.out (by rw [Lib.byteCells_length]; omega) hb7.size).mono ?_
    rintro e w8 ⟨rfl, hB8, hb8⟩
    have hb9 := hb7.trans hb8
    have HB8 : Hid (Lib.IsBuilder 36 5 w1.heap.size w1.heap.size (Lib.byteCells (textE (l.take (k + 1)))) w8) := Lib.hid (by
     rw [HTK.out, Lib.byteCells_append]
     rw [lineE_app HST.out.symm, Lib.strCells_eq] at hB8
     exact hB8)
    clear hB8 hb8 hb7 HB3 hs3
    go_wp2
    go_roundw
    case rel => exact ⟨k + 1, by omega, by go_num, HB8, hb9⟩
    case measure => simp [intOf]; omega
   ·have HT9 : Hid (l.take k = l) := Lib.hid (List.take_of_length_le (by omega))
    rw [HT9.out] at HB hlk
    have hle := @Lib.byteCells_length (textE l)
    obtain ⟨n, hn⟩ : ∃ z, (textE l).length = z := ⟨_, rfl⟩
    have HNL := Lib.hid hn
    rw [hn] at hle hlk
    clear hn
    go_wp2_with fail
    refine (Tryz.Builder_Len w1.heap.size w1.heap.size _ wr HB.out).mono ?_
    rintro e wq ⟨rfl, hwq⟩
    obtain rfl := hwq.symm
    rw [hle]
    by_cases hlong : 3000000 < n
    ·have hlong' : (3000000 : Int) < (n : Int) := by omega
     have HN : Hid (ltF l = 2 ∧ ltT l = []) := Lib.hid (by
      have h9 : ltF l = 2 := by unfold ltF; rw [if_neg (by simp [HF.out]), HNL.out, if_pos hlong]
      exact ⟨h9, by unfold ltT; rw [if_neg (by rw [h9]; decide)]⟩)
     clear hlong
     go_wp2
     exact bodyPost_ret (v := .tuple #[.string ⟨#[]⟩, .int .i64 2]) (by simp [results, Tryz.results5, go_sem]) rfl ⟨by rw [HN.out.1, HN.out.2]; rfl, ext_trans hb1 hbr⟩
    ·have hlong' : ¬ (3000000 : Int) < (n : Int) := by omega
     have HN : Hid (ltF l = 0 ∧ ltT l = textE l) := Lib.hid (by
      have h9 : ltF l = 0 := by unfold ltF; rw [if_neg (by simp [HF.out]), HNL.out, if_neg hlong]
      exact ⟨h9, by unfold ltT; rw [if_pos h9]⟩)
     clear hlong
     go_wp2_with fail
     refine (Tryz.Builder_String_any w1.heap.size w1.heap.size _ wr HB.out hbr.size).mono ?_
     rintro e w8 ⟨rfl, hb8⟩
     have hb9 := ext_trans hb1 (hbr.trans hb8)
     obtain ⟨st, hst⟩ : ∃ z, (⟨(textE l).toArray⟩ : ByteArray) = z := ⟨_, rfl⟩
     have HST : Hid (st = stB (ltT l)) := Lib.hid (by rw [HN.out.2, ← hst]; rfl)
     rw [hst]
     clear hst hb8
     go_wp2
     exact bodyPost_ret (v := .tuple #[.string st, .int .i64 0]) (by simp [results, Tryz.results5, go_sem]) rfl ⟨by rw [HST.out, HN.out.1], hb9⟩
 ·have hne : (f != 0) = true := by simpa using h0
  have HN : Hid (ltF l = f ∧ ltT l = []) := Lib.hid (by
   have h9 : ltF l = f := by unfold ltF; rw [if_pos (by rw [HF.out]; exact h0), HF.out]
   exact ⟨h9, by unfold ltT; rw [if_neg (by rw [h9]; exact h0)]⟩)
  clear h0
  go_wp2
  exact bodyPost_ret (v := .tuple #[.string ⟨#[]⟩, .int .i64 f]) (by simp [results, Tryz.results5, go_sem]) rfl ⟨by rw [HN.out.1, HN.out.2]; rfl, hb1⟩
end Tx
end Go.Proofs.YtbgbfjfboaajbaaGreatDoor
