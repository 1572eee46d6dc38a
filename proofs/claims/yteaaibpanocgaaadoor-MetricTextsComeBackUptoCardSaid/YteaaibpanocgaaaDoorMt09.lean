/- Text of package metric. Printed by gen_mtt.py. -/
import Derived.Test.YteaaibpanocgaaaDoorMt05
import Derived.Test.YteaaibpanocgaaaDoorMt08
namespace Go.Proofs.YteaaibpanocgaaaDoor
open Go.RowKit
namespace Tx
open _root_.Go.Proofs.YteaaibpanocgaaaDoor.Nm
open _root_.Go.Proofs.YteaaibpanocgaaaDoor.Nt (RH RH.cell RH.box RH.lt RH.new RH.ext RH.fre RH.set RH.other)
theorem stB_app (l r : List UInt8) : stB l ++ stB r = stB (l ++ r) := by
 apply ByteArray.ext
 simp [stB]
theorem join_is (c : UInt8) : ∀ l : List (List UInt8), Lib.join l [c] = joinL c l
 | [] => rfl
 | [x] => Lib.join_one x [c]
 | x :: y :: r => by
  rw [Lib.join_cons, joinL, ← join_is c (y :: r), Lib.join_cons]
  simp [Lib.joinTail]
theorem joinB_at (c : UInt8) (l : List ByteArray) (a : Option Addr) (cp : Nat) (w : World) (h : SlS w a l cp) (hne : l ≠ []) (hl : l.length ≤ 10) (hz : ∀ s ∈ l, s.size ≤ 40) :
  Calls Tryd.prog 18 #[.slice a l.length cp, .string ⟨#[c]⟩] w fun e w' => e = .returned (.string (stB (joinL c (l.map (·.data.toList))))) ∧ Below w.heap.size w w' := by
 obtain ⟨x, r, rfl⟩ : ∃ x r, l = x :: r := by
  cases l with
  | nil => exact absurd rfl hne
  | cons x r => exact ⟨x, r, rfl⟩
 obtain ⟨a', cap, hv, h1, h2, h0, h3⟩ := h
 injection hv with e1 e2 e3
 subst e1; subst e3
 obtain ⟨b, o, rfl, hc0⟩ := h3 0 (.string x) rfl
 have hlen : (joinL c ((x :: r).map (·.data.toList))).length ≤ 10 * 41 := by
  refine Nat.le_trans (joinL_bd (k := 40) fun y hy => ?_) ?_
  ·obtain ⟨s, hs, rfl⟩ := List.mem_map.1 hy
   have := hz s hs
   rw [show s.data.toList.length = s.size from Array.length_toList]; exact this
  ·rw [List.length_map]; exact Nat.mul_le_mul_right _ hl
 have hj : Lib.join ((x :: r).map (·.data.toList)) (⟨#[c]⟩ : ByteArray).data.toList = joinL c ((x :: r).map (·.data.toList)) := join_is c _
 refine (Tryd.strings_Join b o cp (x :: r) ⟨#[c]⟩ w (fun j y hy => ?_) (World.block_lt_of_cell? _ _ hc0) (by omega) h1 (by rw [hj]; omega)).mono ?_
 ·obtain ⟨b', o', eb, hc⟩ := h3 j (.string y) (by simp only [strs, List.getElem?_map, hy]; rfl)
  cases eb
  exact hc
 ·rintro e w' ⟨rfl, hb⟩
  rw [hj]
  exact ⟨rfl, hb⟩
/-- a slice of texts, in a drawn region -/
def TPss (l : List ByteArray) : TP := ⟨fun w v => ∃ a c, v = .slice a l.length c ∧ SlS w a l c, fun _ _ _ hb ⟨a, c, h1, h2⟩ => ⟨a, c, h1, h2.ext hb⟩⟩
theorem ss_new (w : World) (a b c d e f : ByteArray) (t : TypeId) : SlS (w.alloc (.cells #[.string a, .string b, .string c, .string d, .string e, .string f] t)) (some ⟨w.heap.size, 0, none⟩) [a, b, c, d, e, f] 6 := by
 have h := Sl.new w #[.string a, .string b, .string c, .string d, .string e, .string f] t 6 6 (Nat.le_refl _) (by decide)
 exact h
/-- a word of kinds, by its address -/
def TPpk (j : Nat) : TP := ⟨fun w v => ∃ b, v = .pointer (some ⟨b, j, none⟩) ∧ w.cell? ⟨b, j, none⟩ = some (.string (bm (kindsL.getD j []))), fun _ _ _ hb ⟨b, h1, h2⟩ => ⟨b, h1, (hb.cell (World.block_lt_of_cell? _ _ h2)).trans h2⟩⟩
theorem kindW_bm {k : Int} {j : Nat} (h : k = (j : Int)) : bm (kindsL.getD j []) = bm (kindW k) := by subst h; rfl
def txS (l : List Met) : ByteArray := stB (txM l)
theorem lineB {m : Met} {kw : ByteArray} (hk : kw = bm (kindW m.kind)) : stB (joinL 32 (([m.name, kw, m.event, stB (itoaS m.len), stB (itoaS m.bef), stB (itoaS m.cap)] : List ByteArray).map (·.data.toList))) ++ (⟨#[10]⟩ : ByteArray) = stB (lineM m) := by
 subst hk
 rw [show (⟨#[10]⟩ : ByteArray) = stB [10] from rfl, stB_app]
 rfl
theorem isb_ext {T e : TypeId} {B b : Nat} {bs : List Value} {w w' : World} (h : Lib.IsBuilder T e B b bs w) (hb : Below w.heap.size w w') : Lib.IsBuilder T e B b bs w' := by
 have go : ∀ p, Lib.BuilderAt T e B b p bs w → Lib.BuilderAt T e B b p bs w' := fun p h => by
  have hlt := h.lt
  obtain ⟨h1, v, h2, h3, h4⟩ := h
  exact ⟨h1, v, by rw [hb.block b hlt]; exact h2, ownsRow_ext h3 hb, h4⟩
 rcases h with h | h
 ·exact .inl (go _ h)
 ·exact .inr (go _ h)
theorem wp_bld {P : Program} {c : Code} {Q : Exit → Act → World → Prop} {a : Act} {w : World} {T e : TypeId} (h : ∀ W, Below w.heap.size w W → Lib.IsBuilder T e w.heap.size w.heap.size [] W → c.wp P Q a W) : c.wp P Q a (w.alloc (.cells #[.pointer none, .slice none 0 0] T)) := h _ (ext_alloc _ _) (Lib.fresh_isBuilder T e w)
theorem take_small {l : List Met} (h : chkM l = 0) (k : Nat) : (textM (l.take k)).length ≤ 15000 := by
 have h1 := chkM_all h
 have h2 := text_len (l := l.take k) (fun m hm => h1.2 m (List.mem_of_mem_take hm))
 have h3 : (l.take k).length ≤ 50 := Nat.le_trans (List.length_take_le' _ _) h1.1
 have h4 : (l.take k).length * 300 ≤ 50 * 300 := Nat.mul_le_mul_right _ h3
 omega
set_option maxRecDepth 100000 in
set_option maxHeartbeats 16000000 in
theorem mtText_at (l : List Met) (hok : ∀ m ∈ l, m.ok) (a : Option Addr) (c : Nat) (w : World) (hs : Sl w (.slice a l.length c) l.length (l.flatMap metL)) (ht : Tb w) : Calls Tryd.prog 7 #[.slice a l.length c] w fun e w' => e = .returned (.tuple #[.string (txS l), .int .i64 (chkM l)]) ∧ Below w.heap.size w w' := by
 have HOK := Lib.hid hok
 have HS := Lib.hid hs
 have HT0 := Lib.hid ht
 clear hok hs ht
 go_enter Tryd.func7, Tryd.ntmps7
 go_wp2_with fail
 refine (checkAll_at l HOK.out a c w HS.out).mono ?_
 rintro e w1 ⟨rfl, hb1⟩
 obtain ⟨f, hf⟩ : ∃ z, chkM l = z := ⟨_, rfl⟩
 have HF := Lib.hid hf
 rw [hf]
 have hl : l.length ≤ 9223372036854775807 := by obtain ⟨_, _, hv, h1, h2, _⟩ := HS.out; cases hv; unfold maxLen at h2; omega
 clear hf
 by_cases h0 : f = 0
 ·subst h0
  have HA := Lib.hid (chkM_all HF.out)
  have HTX : Hid (txS l = stB (textM l)) := Lib.hid (by unfold txS txM; rw [if_pos HF.out])
  have HLEN := Lib.hid (text_small HF.out)
  go_upto_region 6 with (fail)
  refine wp_bld (e := 5) fun X0 hbX0 hB0 => ?_
  go_wp2
  go_loopw [16] (fun i wr => ∃ k : Nat, k ≤ l.length ∧ i = .int .i64 k ∧ Hid (Lib.IsBuilder 40 5 w1.heap.size w1.heap.size (Lib.byteCells (textM (l.take k))) wr) ∧ Below w1.heap.size w1 wr) (fun i _ => l.length - (intOf i).toNat)
  case atStart => exact ⟨0, by omega, rfl, Lib.hid hB0, hbX0⟩
  case round =>
   obtain ⟨k, hk, rfl, HB, hbr⟩ := hrel
   have hlk := take_small HF.out k
   by_cases hlt : k < l.length
   ·have hgk := List.getElem?_eq_getElem hlt
    have hmr := HA.out.2 _ (List.getElem_mem hlt)
    generalize l[k] = m at hgk hmr
    have HMR := Lib.hid hmr
    have HTK := Lib.hid (textM_take hgk)
    obtain ⟨b, o, rfl, hcs⟩ := (HS.out.ext (ext_trans hb1 hbr)).elem metL_len (by omega : 0 < 6) hgk
    have e0 := hcs 0 _ rfl
    have e1 := hcs 1 _ rfl
    have e2 := hcs 2 _ rfl
    have e3 := hcs 3 _ rfl
    have e4 := hcs 4 _ rfl
    have e5 := hcs 5 _ rfl
    rw [Nat.add_zero] at e0
    have hk0 : (0 : Int) ≤ (k : Int) := Int.natCast_nonneg _
    have hk1 : (k : Int) < (l.length : Int) := by omega
    clear hcs hgk hmr
    go_upto_region 9 with (fail)
    clear e0 e1 e2 e3 e4 e5
    refine wp_box1 fun X hszX hbX hM => ?_
    obtain ⟨_, hM2⟩ := id hM
    have c0 := (hM2 0).trans (show (metC m)[0]? = some (.string m.name) from rfl)
    have c1 := (hM2 1).trans (show (metC m)[1]? = some (.int .i64 m.kind) from rfl)
    have c2 := (hM2 2).trans (show (metC m)[2]? = some (.string m.event) from rfl)
    have c3 := (hM2 3).trans (show (metC m)[3]? = some (.int .i64 m.len) from rfl)
    have c4 := (hM2 4).trans (show (metC m)[4]? = some (.int .i64 m.bef) from rfl)
    have c5 := (hM2 5).trans (show (metC m)[5]? = some (.int .i64 m.cap) from rfl)
    clear hM hM2
    obtain ⟨nm, kd, ev, ln, bf, cp⟩ := m
    simp only at c0 c1 c2 c3 c4 c5
    have hlb := line_len HMR.out
    have hki := HMR.out.kind
    have hln := HMR.out.len
    have hbf := HMR.out.bef
    have hcp := HMR.out.cap
    have hz1 := (name_wordsM HMR.out.name).2.2
    have hz2 := (name_wordsM HMR.out.event).2.2
    simp only at hki hln hbf hcp hz1 hz2
    rw [show nm.data.toList.length = nm.size from Array.length_toList] at hz1
    rw [show ev.data.toList.length = ev.size from Array.length_toList] at hz2
    obtain ⟨j, hj⟩ : ∃ j : Nat, kd = (j : Int) := ⟨kd.toNat, by omega⟩
    subst hj
    have hj0 : (0 : Int) ≤ (j : Int) := Int.natCast_nonneg _
    have hj4 : (j : Int) < 4 := by omega
    obtain ⟨kw, hkw⟩ : ∃ z, bm (kindsL.getD j []) = z := ⟨_, rfl⟩
    have HKW : Hid (kw = bm (kindW (j : Int))) := Lib.hid (by rw [← hkw]; exact kindW_bm rfl)
    have hz3 : kw.size ≤ 5 := by
     rw [HKW.out]
     have h9 := kindW_len (k := (j : Int)) (by omega)
     simpa [bm, ByteArray.size] using h9
    obtain ⟨sl, hqsl⟩ : ∃ z, stB (itoaS ln) = z := ⟨_, rfl⟩
    have hzsl : sl.size ≤ 14 := by rw [← hqsl, stB_size]; exact itoaS_length (by omega)
    have HIsl := Lib.hid (fun W9 t9 => (by have h9 := itoaI_at (ln) (by omega) (by omega) W9 t9; rw [hqsl] at h9; exact h9 : Calls Tryd.prog 16 #[.int .i64 (ln)] W9 fun e w' => e = .returned (.string sl) ∧ Below W9.heap.size W9 w'))
    have HQsl := Lib.hid hqsl
    clear hqsl
    obtain ⟨sb, hqsb⟩ : ∃ z, stB (itoaS bf) = z := ⟨_, rfl⟩
    have hzsb : sb.size ≤ 14 := by rw [← hqsb, stB_size]; exact itoaS_length (by omega)
    have HIsb := Lib.hid (fun W9 t9 => (by have h9 := itoaI_at (bf) (by omega) (by omega) W9 t9; rw [hqsb] at h9; exact h9 : Calls Tryd.prog 16 #[.int .i64 (bf)] W9 fun e w' => e = .returned (.string sb) ∧ Below W9.heap.size W9 w'))
    have HQsb := Lib.hid hqsb
    clear hqsb
    obtain ⟨sc, hqsc⟩ : ∃ z, stB (itoaS cp) = z := ⟨_, rfl⟩
    have hzsc : sc.size ≤ 14 := by rw [← hqsc, stB_size]; exact itoaS_length (by omega)
    have HIsc := Lib.hid (fun W9 t9 => (by have h9 := itoaI_at (cp) (by omega) (by omega) W9 t9; rw [hqsc] at h9; exact h9 : Calls Tryd.prog 16 #[.int .i64 (cp)] W9 fun e w' => e = .returned (.string sc) ∧ Below W9.heap.size W9 w'))
    have HQsc := Lib.hid hqsc
    clear hqsc
    have HJ := Lib.hid (fun W9 p9 q9 h9 => joinB_at 32 [nm, kw, ev, sl, sb, sc] p9 q9 W9 h9 (by simp) (by simp) (by
     intro s hs
     simp only [List.mem_cons, List.not_mem_nil, or_false] at hs
     rcases hs with rfl | rfl | rfl | rfl | rfl | rfl <;> omega))
    obtain ⟨jn, hjn⟩ : ∃ z, stB (joinL 32 (([nm, kw, ev, sl, sb, sc] : List ByteArray).map (·.data.toList))) = z := ⟨_, rfl⟩
    rw [hjn] at HJ
    have HLB : Hid (jn ++ (⟨#[10]⟩ : ByteArray) = stB (lineM ⟨nm, (j : Int), ev, ln, bf, cp⟩)) := Lib.hid (by
     rw [← hjn, ← HQsl.out, ← HQsb.out, ← HQsc.out]
     exact lineB (m := ⟨nm, (j : Int), ev, ln, bf, cp⟩) HKW.out)
    have hzj : jn.size ≤ 300 := by
     have h9 := congrArg ByteArray.size HLB.out
     rw [ByteArray.size_append, stB_size] at h9
     omega
    have hb6 := ext_trans (ext_trans hb1 hbr) hbX
    clear hjn
    refine Grow.wp_region_grow 24 [TP.eq (.pointer (some ⟨wr.heap.size, 0, none⟩)), TP.eq (.string nm), TPkd, TP.eq (.pointer (some ⟨wr.heap.size, 1, none⟩)), TP.eq (.int .i64 ((j : Int))), TPpk j, TP.eq (.string kw), TP.eq (.pointer (some ⟨wr.heap.size, 2, none⟩)), TP.eq (.string ev), TP.eq (.func (Fn.func 16) #[] #[]), TP.eq (.pointer (some ⟨wr.heap.size, 3, none⟩)), TP.eq (.int .i64 (ln)), TP.eq (.string sl), TP.eq (.func (Fn.func 16) #[] #[]), TP.eq (.pointer (some ⟨wr.heap.size, 4, none⟩)), TP.eq (.int .i64 (bf)), TP.eq (.string sb), TP.eq (.func (Fn.func 16) #[] #[]), TP.eq (.pointer (some ⟨wr.heap.size, 5, none⟩)), TP.eq (.int .i64 (cp)), TP.eq (.string sc), TPss [nm, kw, ev, sl, sb, sc], TP.eq (.string jn), TP.eq (.string (jn ++ ⟨#[10]⟩))] [[], [0], [], [], [3], [2, 4], [5], [], [7], [], [], [10], [9, 11], [], [], [14], [13, 15], [], [], [18], [17, 19], [1, 6, 8, 12, 16, 20], [21], [22]] (by kernel_rfl) (by kernel_rfl) ⟨?o0g, ?o1g, ?o2g, ?o3g, ?o4g, ?o5g, ?o6g, ?o7g, ?o8g, ?o9g, ?o10g, ?o11g, ?o12g, ?o13g, ?o14g, ?o15g, ?o16g, ?o17g, ?o18g, ?o19g, ?o20g, ?o21g, ?o22g, ?o23g, trivial⟩ ?_
    case o0g | o3g | o7g | o9g | o10g | o13g | o14g | o17g | o18g =>
     intro w' hb
     show wpList _ _ _ _ _ _
     go_wp2
     exact ⟨rfl, Below.refl _ _, rfl⟩
    case o1g =>
     intro w' hb v1 hv1
     obtain rfl : v1 = _ := hv1
     have c0' := zzc hb c0
     show wpList _ _ _ _ _ _
     simp only [Grow.dstOf, zz1, zz3, zz4, Act.put, zz5, zz6, zz7]
     go_wp2
     exact ⟨rfl, Below.refl _ _, rfl⟩
    case o2g =>
     intro w' hb
     show wpList _ _ _ _ _ _
     go_wp2_with fail
     refine (kinds_at w').mono ?_
     rintro e wz ⟨vk, rfl, hkd, hbz⟩
     go_wp2
     exact ⟨hkd, hbz, rfl⟩
    case o4g | o8g | o11g | o15g | o19g =>
     intro w' hb v1 hv1
     obtain rfl : v1 = _ := hv1
     have c1' := zzc hb c1
     have c2' := zzc hb c2
     have c3' := zzc hb c3
     have c4' := zzc hb c4
     have c5' := zzc hb c5
     show wpList _ _ _ _ _ _
     simp only [Grow.dstOf, zz1, zz2, zz3, zz4, Act.put, zz5, zz6, zz7]
     go_wp2
     exact ⟨rfl, Below.refl _ _, rfl⟩
    case o5g =>
     intro w' hb v1 hv1 v2 hv2
     have hv1' : KdV w' v1 := hv1
     clear hv1
     obtain rfl : v2 = _ := hv2
     obtain ⟨bk, rfl, hkc⟩ := hv1'
     have ek := hkc j (by omega)
     show wpList _ _ _ _ _ _
     simp only [Grow.dstOf, zz1, zz2, zz3, zz4, Act.put, zz5, zz6, zz7]
     go_wp2
     exact ⟨⟨_, rfl, ek⟩, Below.refl _ _, rfl⟩
    case o6g =>
     intro w' hb v1 hv1
     have hv1' : ∃ b, v1 = .pointer (some ⟨b, j, none⟩) ∧ w'.cell? ⟨b, j, none⟩ = some (.string (bm (kindsL.getD j []))) := hv1
     clear hv1
     obtain ⟨bk, rfl, ek⟩ := hv1'
     rw [hkw] at ek
     show wpList _ _ _ _ _ _
     simp only [Grow.dstOf, zz1, zz2, zz3, zz4, Act.put, zz5, zz6, zz7]
     go_wp2
     exact ⟨rfl, Below.refl _ _, rfl⟩
    case o12g =>
     intro w' hb v1 hv1 v2 hv2
     obtain rfl : v1 = _ := hv1
     obtain rfl : v2 = _ := hv2
     show wpList _ _ _ _ _ _
     simp only [Grow.dstOf, zz1, zz2, zz3, zz4, Act.put, zz5, zz6, zz7]
     go_wp2_with fail
     refine (HIsl.out w' (HT0.out.ext (ext_trans hb6 hb))).mono ?_
     rintro e wz ⟨rfl, hbz⟩
     go_wp2
     exact ⟨rfl, hbz, rfl⟩
    case o16g =>
     intro w' hb v1 hv1 v2 hv2
     obtain rfl : v1 = _ := hv1
     obtain rfl : v2 = _ := hv2
     show wpList _ _ _ _ _ _
     simp only [Grow.dstOf, zz1, zz2, zz3, zz4, Act.put, zz5, zz6, zz7]
     go_wp2_with fail
     refine (HIsb.out w' (HT0.out.ext (ext_trans hb6 hb))).mono ?_
     rintro e wz ⟨rfl, hbz⟩
     go_wp2
     exact ⟨rfl, hbz, rfl⟩
    case o20g =>
     intro w' hb v1 hv1 v2 hv2
     obtain rfl : v1 = _ := hv1
     obtain rfl : v2 = _ := hv2
     show wpList _ _ _ _ _ _
     simp only [Grow.dstOf, zz1, zz2, zz3, zz4, Act.put, zz5, zz6, zz7]
     go_wp2_with fail
     refine (HIsc.out w' (HT0.out.ext (ext_trans hb6 hb))).mono ?_
     rintro e wz ⟨rfl, hbz⟩
     go_wp2
     exact ⟨rfl, hbz, rfl⟩
    case o21g =>
     intro w' hb v1 hv1 v2 hv2 v3 hv3 v4 hv4 v5 hv5 v6 hv6
     obtain rfl : v1 = _ := hv1
     obtain rfl : v2 = _ := hv2
     obtain rfl : v3 = _ := hv3
     obtain rfl : v4 = _ := hv4
     obtain rfl : v5 = _ := hv5
     obtain rfl : v6 = _ := hv6
     show wpList _ _ _ _ _ _
     simp only [Grow.dstOf, zz1, zz2, zz3, zz4, Act.put, zz5, zz6, zz7]
     go_wp2
     exact ⟨⟨_, _, rfl, ss_new _ _ _ _ _ _ _ _⟩, ext_alloc _ _, rfl⟩
    case o22g =>
     intro w' hb v1 hv1
     have hv1' : ∃ a c, v1 = .slice a ([nm, kw, ev, sl, sb, sc] : List ByteArray).length c ∧ SlS w' a [nm, kw, ev, sl, sb, sc] c := hv1
     clear hv1
     obtain ⟨p9, q9, rfl, hss⟩ := hv1'
     show wpList _ _ _ _ _ _
     simp only [Grow.dstOf, zz1, zz2, zz3, zz4, Act.put, zz5, zz6, zz7]
     go_wp2_with fail
     refine (HJ.out w' p9 q9 hss).mono ?_
     rintro e wz ⟨rfl, hbz⟩
     go_wp2
     exact ⟨rfl, hbz, rfl⟩
    case o23g =>
     intro w' hb v1 hv1
     obtain rfl : v1 = _ := hv1
     show wpList _ _ _ _ _ _
     simp only [Grow.dstOf, zz1, zz2, zz3, zz4, Act.put, zz5, zz6, zz7]
     go_wp2
     exact ⟨rfl, Below.refl _ _, rfl⟩
    intro W7 hbz u0 hu0 u1 hu1 u2 hu2 u3 hu3 u4 hu4 u5 hu5 u6 hu6 u7 hu7 u8 hu8 u9 hu9 u10 hu10 u11 hu11 u12 hu12 u13 hu13 u14 hu14 u15 hu15 u16 hu16 u17 hu17 u18 hu18 u19 hu19 u20 hu20 u21 hu21 u22 hu22 u23 hu23
    obtain rfl : u23 = _ := hu23
    clear hu0 hu1 hu2 hu3 hu4 hu5 hu6 hu7 hu8 hu9 hu10 hu11 hu12 hu13 hu14 hu15 hu16 hu17 hu18 hu19 hu20 hu21 hu22
    have HB7 := Lib.hid (isb_ext (isb_ext HB.out hbX) hbz)
    have hb7 := ext_trans hbr (ext_trans hbX hbz)
    clear HB hb6 hbX hbz hbr c0 c1 c2 c3 c4 c5
    show wpList _ _ _ _ _ _
    simp only [Act.put, zz5, zz6, zz7]
    go_wp2_with fail
    refine (bld_write w1.heap.size w1.heap.size _ (jn ++ (⟨#[10]⟩ : ByteArray)) W7 HB7.out (by rw [Lib.byteCells_length, HLB.out, stB_size]; omega) hb7.size).mono ?_
    rintro e w8 ⟨rfl, hB8, hb8⟩
    have hb9 := hb7.trans hb8
    have HB8 : Hid (Lib.IsBuilder 40 5 w1.heap.size w1.heap.size (Lib.byteCells (textM (l.take (k + 1)))) w8) := Lib.hid (by
     rw [HTK.out, Lib.byteCells_append]
     rw [HLB.out, Lib.strCells_eq] at hB8
     exact hB8)
    clear hB8 hb8 hb7 HB7
    go_wp2
    go_roundw
    case rel => exact ⟨k + 1, by omega, by go_num, HB8, hb9⟩
    case measure => simp [intOf]; omega
   ·have HT9 : Hid (l.take k = l) := Lib.hid (List.take_of_length_le (by omega))
    rw [HT9.out] at HB
    go_wp2_with fail
    refine (Tryd.Builder_String_any w1.heap.size w1.heap.size _ wr HB.out hbr.size).mono ?_
    rintro e w8 ⟨rfl, hb8⟩
    have hb9 := ext_trans hb1 (hbr.trans hb8)
    obtain ⟨st, hst⟩ : ∃ z, (⟨(textM l).toArray⟩ : ByteArray) = z := ⟨_, rfl⟩
    have HST : Hid (st = txS l) := Lib.hid (by rw [HTX.out, ← hst]; rfl)
    rw [hst]
    clear hst hb8
    go_wp2
    exact bodyPost_ret (v := .tuple #[.string st, .int .i64 0]) (by simp [results, Tryd.results7, go_sem]) rfl ⟨by rw [HST.out, HF.out], hb9⟩
 ·have hne : (f != 0) = true := by simpa using h0
  have HN : Hid (⟨#[]⟩ = txS l) := Lib.hid (by unfold txS txM; rw [if_neg (by rw [HF.out]; exact h0)]; rfl)
  clear h0
  go_wp2
  exact bodyPost_ret (v := .tuple #[.string ⟨#[]⟩, .int .i64 f]) (by simp [results, Tryd.results7, go_sem]) rfl ⟨by rw [← HN.out, HF.out], hb1⟩
end Tx
end Go.Proofs.YteaaibpanocgaaaDoor
