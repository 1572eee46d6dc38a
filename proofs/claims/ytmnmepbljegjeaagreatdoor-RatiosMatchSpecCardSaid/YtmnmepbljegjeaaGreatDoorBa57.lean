/- Decimal of package value. Printed by gen_dec.py. -/
import Derived.Test.YtmnmepbljegjeaaGreatDoorBa23
import Derived.Test.YtmnmepbljegjeaaGreatDoorBa56
import Derived.Test.YtmnmepbljegjeaaGreatDoorBa18
import Derived.Test.YtmnmepbljegjeaaGreatDoorBa47
namespace Go.Proofs.YtmnmepbljegjeaaGreatDoor
open Go.RowKit
namespace Nm
def TP.num (n : Nat) : TP := ⟨fun w v => N w v n, fun _ _ _ hb h => h.ext hb⟩
def TP.num2 (n m : Nat) : TP := ⟨fun w v => ∃ v1 v2, v = .tuple #[v1, v2] ∧ N w v1 n ∧ N w v2 m, fun _ _ _ hb ⟨v1, v2, h, h1, h2⟩ => ⟨v1, v2, h, h1.ext hb, h2.ext hb⟩⟩
/-- fault and text of a decimal -/
def dcmF (n d : ByteArray) (p : Int) : Int := if rF n d ≠ 0 then rF n d else if 0 ≤ p ∧ p ≤ 30 then 0 else 1
def dcmQ (n d : ByteArray) (p : Int) : Nat := dcQ (rQ n d).num.natAbs (rQ n d).den p.toNat
def dcmS (n d : ByteArray) (p : Int) : ByteArray := if dcmF n d p = 0 then strOf (dcT (decide ((rQ n d).num < 0) && decide (0 < dcmQ n d p)) p.toNat (decS (dcmQ n d p))) else ⟨#[]⟩
def DcmPost (w : World) (n d : ByteArray) (p : Int) (e : Ending) (w' : World) : Prop := e = .returned (.tuple #[.string (dcmS n d p), .int .i64 (dcmF n d p)]) ∧ Below w.heap.size w w'
def XIf (w : World) (n d : ByteArray) (v : Value) : Prop := rF n d = 0 → XR w v (rQ n d)
theorem XIf.ext {w w' : World} {n d : ByteArray} {v : Value} (h : XIf w n d v) (hb : Below w.heap.size w w') : XIf w' n d v := fun h0 => (h h0).ext hb
theorem xv_parts {w : World} {b : Bool} {p1 : Option Addr} {m1 c1 : Nat} {p2 : Option Addr} {m2 c2 : Nat} {q : Rat} (h : XR w (xv b p1 m1 c1 p2 m2 c2) q) : decide (q.num < 0) = b ∧ N w (.slice p1 m1 c1) q.num.natAbs ∧ N w (.slice p2 m2 c2) q.den := by
  obtain ⟨v1, v2, e, h1, h2⟩ := h
  unfold xv at e
  injection e with e'
  have g0 : some (Value.bool b) = some (Value.bool (decide (q.num < 0))) := congrArg (fun a : Array Value => a[0]?) e'
  have g1 : some (Value.slice p1 m1 c1) = some v1 := congrArg (fun a : Array Value => a[1]?) e'
  have g2 : some (Value.slice p2 m2 c2) = some v2 := congrArg (fun a : Array Value => a[2]?) e'
  injection g0 with g0
  injection g0 with g0
  injection g1 with g1
  injection g2 with g2
  subst g1 g2
  exact ⟨g0.symm, h1, h2⟩
theorem dot_is (l : List UInt8) (k : Nat) : (strOf l).extract 0 k ++ ⟨#[46]⟩ ++ (strOf l).extract k (strOf l).size = strOf (l.take k ++ [46] ++ l.drop k) := by
  apply ByteArray.ext
  rw [ByteArray.data_append, ByteArray.data_append]
  apply Array.ext'
  rw [Array.toList_append, Array.toList_append, Nt.ext_zero]
  have e : ((strOf l).extract k (strOf l).size).data.toList = l.drop k := by
    simp only [ByteArray.data_extract, Array.toList_extract]
    rw [List.extract_eq_take_drop, strOf_list, strOf_size, List.take_of_length_le (by rw [List.length_drop]; omega)]
  rw [e]
  rfl
theorem cat_is (l m : List UInt8) : strOf l ++ strOf m = strOf (l ++ m) := by
  apply ByteArray.ext
  rw [ByteArray.data_append]
  simp [strOf]
theorem rep_at (n : Nat) (hn : n ≤ 1000) (S : ByteArray) (hS : S = strOf (List.replicate n 48)) (z : Int) (hz : z = (n : Int)) (w : World) : Calls Tryz.prog 97 #[.string ⟨#[48]⟩, .int .i64 z] w (fun e w' => e = .returned (.string S) ∧ Below w.heap.size w w') := by
  subst hS hz; exact Nt.zeros_at n (by omega) w
theorem wlen_ten {a i : Nat} (ha : wlen a ≤ 4000) (hi : i ≤ 31) : wlen (a * 10 ^ i) ≤ 4100 := by
  have h1 := wlen_mul a (10 ^ i)
  have h2 : wlen (10 ^ i) ≤ i + 1 := wlen_dec (Nat.pow_lt_pow_right (by decide) (by omega))
  omega
theorem tail_none {P : Program} {ops : Array Oper} {Q : Exit → Act → World → Prop} {a : Act} {w : World} (h : Q .normal a w) : wpList P ops Q [] a w := h
theorem digs_zero_iff {Q : Nat} : (digs Q).length = 0 ↔ Q = 0 := by
  constructor
  · intro h
    by_cases hq : Q = 0
    · exact hq
    · exfalso
      unfold digs at h
      rw [dif_neg hq] at h
      simp at h
  · rintro rfl
    rw [digs_zero]; rfl
set_option maxRecDepth 100000 in
set_option maxHeartbeats 16000000 in
theorem decimal_at (n d : ByteArray) (hn : n.size ≤ maxLen) (hd : d.size ≤ maxLen) (p : Int) (w : World) : Calls Tryz.prog 25 #[.agg #[.string n, .string d], .int .i64 p] w (DcmPost w n d p) := by
  go_enter Tryz.func25, Tryz.ntmps25
  go_upto_region 1 with (fail)
  refine wp_box1 fun w1' hsz hbW hA0 => ?_
  clear hsz
  have HB_r := Lib.hid hA0
  have HW := Lib.hid hbW
  clear hbW hA0
  have c_r_0 : w1'.cell? ⟨w.heap.size, 0, none⟩ = some (.string n) := HB_r.out.2 0
  have c_r_1 : w1'.cell? ⟨w.heap.size, 1, none⟩ = some (.string d) := HB_r.out.2 1
  go_wp2_with fail
  refine (xratOf_is n d hn hd w1').mono ?_
  rintro e w2' ⟨b, p1, m1, c1, p2, m2, c2, rfl, hX, hbz⟩
  have HX : Hid (XIf w2' n d (xv b p1 m1 c1 p2 m2 c2)) := Lib.hid hX
  clear hX
  replace HB_r := Lib.hid (HB_r.out.ext hbz)
  replace HW := Lib.hid (ext_trans HW.out hbz)
  clear c_r_0 c_r_1
  clear hbz
  go_upto_region 2 with (fail)
  refine wp_box1 fun w3' hsz hbz hC => ?_
  clear hsz
  have lt_r_x : w.heap.size < w2'.heap.size := HB_r.out.1
  have le_x : w.heap.size ≤ w2'.heap.size := HW.out.size
  replace HB_r := Lib.hid (HB_r.out.ext hbz)
  replace HX := Lib.hid (HX.out.ext hbz)
  replace HW := Lib.hid (ext_trans HW.out hbz)
  clear hbz
  have HB_x := Lib.hid hC
  clear hC
  generalize w2'.heap.size = b_x at *
  by_cases hz : rF n d = 0
  · have hne : (rF n d != 0) = false := by simp [hz]
    by_cases hp : 0 ≤ p ∧ p ≤ 30
    · obtain ⟨hp0, hp30⟩ := id hp
      obtain ⟨pn, rfl⟩ : ∃ x : Nat, p = (x : Int) := ⟨p.toNat, by omega⟩
      have hpn : pn ≤ 30 := by omega
      have HO : Hid (dcmS n d (pn : Int) = strOf (dcT (decide ((rQ n d).num < 0) && decide (0 < dcmQ n d (pn : Int))) pn (decS (dcmQ n d (pn : Int)))) ∧ dcmF n d (pn : Int) = 0) := by
        have e : dcmF n d (pn : Int) = 0 := by unfold dcmF; rw [if_neg (fun h => h hz), if_pos hp]
        exact Lib.hid ⟨by unfold dcmS; rw [if_pos e]; rfl, e⟩
      have hsm := rQ_small hz
      obtain ⟨hb9, hN, hD⟩ := xv_parts (HX.out hz)
      have HNA := Lib.hid hN
      have HND := Lib.hid hD
      clear HX hN hD
      have HQ0 : Hid (dcmQ n d (pn : Int) = dcQ (rQ n d).num.natAbs (rQ n d).den pn) := Lib.hid rfl
      have hden : 0 < (rQ n d).den := (rQ n d).den_pos
      generalize dcmQ n d (pn : Int) = Q at *
      generalize (rQ n d).num.natAbs = A at *
      generalize (rQ n d).den = D at *
      rw [hb9] at HO
      clear hz hp hp0 hp30 hb9
      obtain ⟨hA4, hD4⟩ := hsm
      have c_x_0 : w3'.cell? ⟨b_x, 0, none⟩ = some (.bool b) := HB_x.out.2 0
      have c_x_1 : w3'.cell? ⟨b_x, 1, none⟩ = some (.slice p1 m1 c1) := HB_x.out.2 1
      have c_x_2 : w3'.cell? ⟨b_x, 2, none⟩ = some (.slice p2 m2 c2) := HB_x.out.2 2
      have hpI : (0 : Int) ≤ (pn : Int) ∧ (pn : Int) ≤ 30 := by omega
      go_wp2
      clear c_x_0 c_x_1 c_x_2
      go_loopw [8, 31] (fun s i wr => ∃ j : Nat, j ≤ pn ∧ i = .int .i64 (j : Int) ∧ Hid (N wr s (A * 10 ^ j)) ∧ (Box wr w.heap.size #[.string n, .string d]) ∧ (Box wr b_x #[.bool b, .slice p1 m1 c1, .slice p2 m2 c2]) ∧ (N wr (.slice p2 m2 c2) D) ∧ (Below w.heap.size w wr)) (fun _ i _ => pn - (intOf i).toNat)
      case atStart => exact ⟨0, by omega, rfl, (by rw [Nat.pow_zero, Nat.mul_one]; exact HNA), HB_r.out, HB_x.out, HND.out, HW.out⟩
      case round =>
        obtain ⟨j, hj, rfl, HNJ, q_HB_r, q_HB_x, q_HND, q_HW⟩ := hrel
        clear HB_r HB_x HND HW
        clear HNA
        have HB_r := Lib.hid q_HB_r
        have HB_x := Lib.hid q_HB_x
        have HND := Lib.hid q_HND
        have HW := Lib.hid q_HW
        clear q_HB_r q_HB_x q_HND q_HW
        generalize hX : wr = X at *
        clear hX
        have hwl := wlen_ten hA4 (show j ≤ 31 by omega)
        obtain ⟨Y, hY⟩ : ∃ Y, A * 10 ^ j = Y := ⟨_, rfl⟩
        have HNY : Hid (N X u8 Y) := by rw [← hY]; exact HNJ
        rw [hY] at hwl
        have HY := Lib.hid hY
        clear HNJ hY
        obtain ⟨aY, cY, rfl, _⟩ := HNY.out.open_
        obtain ⟨mY, hmY⟩ : ∃ x, (digs Y).length = x := ⟨_, rfl⟩
        rw [hmY] at HNY ⊢
        clear hmY
        by_cases hlt : j < pn
        · have HYN : Hid (A * 10 ^ (j + 1) = Y * 10) := Lib.hid (by rw [← HY.out, Nat.pow_succ, Nat.mul_assoc])
          go_wp2_with fail
          refine (xnatOf_at 10 (by decide) X).mono ?_
          rintro e w4' ⟨v9, rfl, hn9, hbz⟩
          have HN9 := Lib.hid hn9
          obtain ⟨a9, c9, rfl, _⟩ := hn9.open_
          clear hn9
          replace HB_r := Lib.hid (HB_r.out.ext hbz)
          replace HB_x := Lib.hid (HB_x.out.ext hbz)
          replace HND := Lib.hid (HND.out.ext hbz)
          replace HNY := Lib.hid (HNY.out.ext hbz)
          replace HW := Lib.hid (ext_trans HW.out hbz)
          clear hbz
          go_wp2_with fail
          refine (times_at Y 10 _ _ w4' HNY.out HN9.out (by omega) (by have := wlen_dec (x := 10) (k := 2) (by decide); omega)).mono ?_
          rintro e w5' ⟨v8, rfl, hn8, hbz⟩
          have HN8 := Lib.hid hn8
          clear hn8
          replace HB_r := Lib.hid (HB_r.out.ext hbz)
          replace HB_x := Lib.hid (HB_x.out.ext hbz)
          replace HND := Lib.hid (HND.out.ext hbz)
          replace HNY := Lib.hid (HNY.out.ext hbz)
          replace HN9 := Lib.hid (HN9.out.ext hbz)
          replace HW := Lib.hid (ext_trans HW.out hbz)
          clear hbz
          go_wp2
          go_roundw
          case rel => exact ⟨j + 1, by omega, by go_num, (by rw [HYN.out]; exact HN8), HB_r.out, HB_x.out, HND.out, HW.out⟩
          case measure => simp [intOf]; omega
        · have hjp : j = pn := by omega
          have HQ : Hid ((Y + Y + D) / (D + D) = Q) := Lib.hid (by rw [HQ0.out, ← HY.out, hjp]; rfl)
          clear HQ0 HY hjp hj
          have w1 := wlen_add Y Y
          have w2 := wlen_add (Y + Y) D
          have w3 := wlen_add D D
          have wQ : wlen Q ≤ 5000 := by
            rw [← HQ.out]
            exact Nat.le_trans (wlen_mono (Nat.div_le_self _ _)) (by omega)
          have c_x_0 : X.cell? ⟨b_x, 0, none⟩ = some (.bool b) := HB_x.out.2 0
          have c_x_1 : X.cell? ⟨b_x, 1, none⟩ = some (.slice p1 m1 c1) := HB_x.out.2 1
          have c_x_2 : X.cell? ⟨b_x, 2, none⟩ = some (.slice p2 m2 c2) := HB_x.out.2 2
          go_upto_region 11 with (fail)
          refine Grow.wp_region_growr 17 [TP.eq (.slice aY mY cY), TP.eq (.slice aY mY cY), TP.num (Y + Y), TP.eq (.pointer (some ⟨b_x, 2, none⟩)), TP.eq (.slice p2 m2 c2), TP.num (Y + Y + D), TP.eq (.pointer (some ⟨b_x, 2, none⟩)), TP.eq (.slice p2 m2 c2), TP.eq (.pointer (some ⟨b_x, 2, none⟩)), TP.eq (.slice p2 m2 c2), TP.num (D + D), TP.num2 ((Y + Y + D) / (D + D)) ((Y + Y + D) % (D + D)), TP.num2 ((Y + Y + D) / (D + D)) ((Y + Y + D) % (D + D)), TP.num ((Y + Y + D) / (D + D)), TP.num ((Y + Y + D) % (D + D)), TP.num ((Y + Y + D) / (D + D)), TP.num ((Y + Y + D) % (D + D))] [[], [], [0, 1], [], [3], [2, 4], [], [6], [], [8], [7, 9], [5, 10], [11], [12], [12], [13], [14]] [0, 1, 2, 3, 4, 5, 6, 7, 8, 9, 10, 11, 12, 13, 15, 14, 16] (by kernel_rfl) (by kernel_rfl) ⟨?o0dc, ?o1dc, ?o2dc, ?o3dc, ?o4dc, ?o5dc, ?o6dc, ?o7dc, ?o8dc, ?o9dc, ?o10dc, ?o11dc, ?o12dc, ?o13dc, ?o14dc, ?o15dc, ?o16dc, trivial⟩ ?_
          case o0dc =>
            intro w' hb
            show wpList _ _ _ _ _ _
            go_wp2
            exact ⟨rfl, Below.refl _ _, rfl⟩
          case o1dc =>
            intro w' hb
            show wpList _ _ _ _ _ _
            go_wp2
            exact ⟨rfl, Below.refl _ _, rfl⟩
          case o2dc =>
            intro w' hb v1 hv1 v2 hv2
            obtain rfl : v1 = _ := hv1
            obtain rfl : v2 = _ := hv2
            show wpList _ _ _ _ _ _
            simp only [Grow.dstOf, List.getElem?_toArray, List.getElem?_cons_succ, List.getElem?_cons_zero, Option.bind_some, Act.put, List.setIfInBounds_toArray, List.set_cons_succ, List.set_cons_zero]
            go_wp2_with fail
            refine (add_at Y Y _ _ w' (HNY.out.ext hb) (HNY.out.ext hb) (by omega) (by omega)).mono ?_
            rintro e wz ⟨vz, rfl, hxz, hbz⟩
            go_wp2
            exact ⟨hxz, hbz, rfl⟩
          case o3dc =>
            intro w' hb
            show wpList _ _ _ _ _ _
            go_wp2
            exact ⟨rfl, Below.refl _ _, rfl⟩
          case o4dc =>
            intro w' hb v1 hv1
            obtain rfl : v1 = _ := hv1
            have c_x_2' : w'.cell? ⟨b_x, 2, none⟩ = some (.slice p2 m2 c2) := (hb.cell (World.block_lt_of_cell? _ _ c_x_2)).trans c_x_2
            show wpList _ _ _ _ _ _
            simp only [Grow.dstOf, List.getElem?_toArray, List.getElem?_cons_succ, List.getElem?_cons_zero, Option.bind_some, Act.put, List.setIfInBounds_toArray, List.set_cons_succ, List.set_cons_zero]
            go_wp2
            exact ⟨rfl, Below.refl _ _, rfl⟩
          case o5dc =>
            intro w' hb v1 hv1 v2 hv2
            have hv1' : N w' v1 (Y + Y) := hv1
            clear hv1
            obtain rfl : v2 = _ := hv2
            obtain ⟨m81, c81, rfl, _⟩ := hv1'.open_
            show wpList _ _ _ _ _ _
            simp only [Grow.dstOf, List.getElem?_toArray, List.getElem?_cons_succ, List.getElem?_cons_zero, Option.bind_some, Act.put, List.setIfInBounds_toArray, List.set_cons_succ, List.set_cons_zero]
            go_wp2_with fail
            refine (add_at (Y + Y) D _ _ w' hv1' (HND.out.ext hb) (by omega) (by omega)).mono ?_
            rintro e wz ⟨vz, rfl, hxz, hbz⟩
            go_wp2
            exact ⟨hxz, hbz, rfl⟩
          case o6dc =>
            intro w' hb
            show wpList _ _ _ _ _ _
            go_wp2
            exact ⟨rfl, Below.refl _ _, rfl⟩
          case o7dc =>
            intro w' hb v1 hv1
            obtain rfl : v1 = _ := hv1
            have c_x_2' : w'.cell? ⟨b_x, 2, none⟩ = some (.slice p2 m2 c2) := (hb.cell (World.block_lt_of_cell? _ _ c_x_2)).trans c_x_2
            show wpList _ _ _ _ _ _
            simp only [Grow.dstOf, List.getElem?_toArray, List.getElem?_cons_succ, List.getElem?_cons_zero, Option.bind_some, Act.put, List.setIfInBounds_toArray, List.set_cons_succ, List.set_cons_zero]
            go_wp2
            exact ⟨rfl, Below.refl _ _, rfl⟩
          case o8dc =>
            intro w' hb
            show wpList _ _ _ _ _ _
            go_wp2
            exact ⟨rfl, Below.refl _ _, rfl⟩
          case o9dc =>
            intro w' hb v1 hv1
            obtain rfl : v1 = _ := hv1
            have c_x_2' : w'.cell? ⟨b_x, 2, none⟩ = some (.slice p2 m2 c2) := (hb.cell (World.block_lt_of_cell? _ _ c_x_2)).trans c_x_2
            show wpList _ _ _ _ _ _
            simp only [Grow.dstOf, List.getElem?_toArray, List.getElem?_cons_succ, List.getElem?_cons_zero, Option.bind_some, Act.put, List.setIfInBounds_toArray, List.set_cons_succ, List.set_cons_zero]
            go_wp2
            exact ⟨rfl, Below.refl _ _, rfl⟩
          case o10dc =>
            intro w' hb v1 hv1 v2 hv2
            obtain rfl : v1 = _ := hv1
            obtain rfl : v2 = _ := hv2
            show wpList _ _ _ _ _ _
            simp only [Grow.dstOf, List.getElem?_toArray, List.getElem?_cons_succ, List.getElem?_cons_zero, Option.bind_some, Act.put, List.setIfInBounds_toArray, List.set_cons_succ, List.set_cons_zero]
            go_wp2_with fail
            refine (add_at D D _ _ w' (HND.out.ext hb) (HND.out.ext hb) (by omega) (by omega)).mono ?_
            rintro e wz ⟨vz, rfl, hxz, hbz⟩
            go_wp2
            exact ⟨hxz, hbz, rfl⟩
          case o11dc =>
            intro w' hb v1 hv1 v2 hv2
            have hv1' : N w' v1 (Y + Y + D) := hv1
            clear hv1
            have hv2' : N w' v2 (D + D) := hv2
            clear hv2
            obtain ⟨m81, c81, rfl, _⟩ := hv1'.open_
            obtain ⟨m82, c82, rfl, _⟩ := hv2'.open_
            show wpList _ _ _ _ _ _
            simp only [Grow.dstOf, List.getElem?_toArray, List.getElem?_cons_succ, List.getElem?_cons_zero, Option.bind_some, Act.put, List.setIfInBounds_toArray, List.set_cons_succ, List.set_cons_zero]
            go_wp2_with fail
            refine (over_at (Y + Y + D) (D + D) _ _ w' hv1' hv2' (by omega) (by omega)).mono ?_
            rintro e wz ⟨vz, vz2, rfl, hxz, hxz2, hbz⟩
            go_wp2
            exact ⟨⟨_, _, rfl, hxz, hxz2⟩, hbz, rfl⟩
          case o12dc =>
            intro w' hb v1 hv1
            have hv1' : ∃ x1 x2, v1 = .tuple #[x1, x2] ∧ N w' x1 ((Y + Y + D) / (D + D)) ∧ N w' x2 ((Y + Y + D) % (D + D)) := hv1
            clear hv1
            obtain ⟨vq, vr, rfl, hnq, hnr⟩ := hv1'
            show wpList _ _ _ _ _ _
            simp only [Grow.dstOf, List.getElem?_toArray, List.getElem?_cons_succ, List.getElem?_cons_zero, Option.bind_some, Act.put, List.setIfInBounds_toArray, List.set_cons_succ, List.set_cons_zero]
            go_wp2
            exact ⟨⟨_, _, rfl, hnq, hnr⟩, Below.refl _ _, rfl⟩
          case o13dc =>
            intro w' hb v1 hv1
            have hv1' : ∃ x1 x2, v1 = .tuple #[x1, x2] ∧ N w' x1 ((Y + Y + D) / (D + D)) ∧ N w' x2 ((Y + Y + D) % (D + D)) := hv1
            clear hv1
            obtain ⟨vq, vr, rfl, hnq, hnr⟩ := hv1'
            show wpList _ _ _ _ _ _
            simp only [Grow.dstOf, List.getElem?_toArray, List.getElem?_cons_succ, List.getElem?_cons_zero, Option.bind_some, Act.put, List.setIfInBounds_toArray, List.set_cons_succ, List.set_cons_zero]
            go_wp2
            exact ⟨hnq, Below.refl _ _, rfl⟩
          case o14dc =>
            intro w' hb v1 hv1
            have hv1' : ∃ x1 x2, v1 = .tuple #[x1, x2] ∧ N w' x1 ((Y + Y + D) / (D + D)) ∧ N w' x2 ((Y + Y + D) % (D + D)) := hv1
            clear hv1
            obtain ⟨vq, vr, rfl, hnq, hnr⟩ := hv1'
            show wpList _ _ _ _ _ _
            simp only [Grow.dstOf, List.getElem?_toArray, List.getElem?_cons_succ, List.getElem?_cons_zero, Option.bind_some, Act.put, List.setIfInBounds_toArray, List.set_cons_succ, List.set_cons_zero]
            go_wp2
            exact ⟨hnr, Below.refl _ _, rfl⟩
          case o15dc =>
            intro w' hb v1 hv1
            have hv1' : N w' v1 ((Y + Y + D) / (D + D)) := hv1
            clear hv1
            show wpList _ _ _ _ _ _
            simp only [Grow.dstOf, List.getElem?_toArray, List.getElem?_cons_succ, List.getElem?_cons_zero, Option.bind_some, Act.put, List.setIfInBounds_toArray, List.set_cons_succ, List.set_cons_zero]
            go_wp2
            exact ⟨hv1', Below.refl _ _, rfl⟩
          case o16dc =>
            intro w' hb v1 hv1
            have hv1' : N w' v1 ((Y + Y + D) % (D + D)) := hv1
            clear hv1
            show wpList _ _ _ _ _ _
            simp only [Grow.dstOf, List.getElem?_toArray, List.getElem?_cons_succ, List.getElem?_cons_zero, Option.bind_some, Act.put, List.setIfInBounds_toArray, List.set_cons_succ, List.set_cons_zero]
            go_wp2
            exact ⟨hv1', Below.refl _ _, rfl⟩
          intro w4' hbz u0 hu0 u1 hu1 u2 hu2 u3 hu3 u4 hu4 u5 hu5 u6 hu6 u7 hu7 u8 hu8 u9 hu9 u10 hu10 u11 hu11 u12 hu12 u13 hu13 u14 hu14 u15 hu15 u16 hu16
          have hq9 : N w4' u15 ((Y + Y + D) / (D + D)) := hu15
          rw [HQ.out] at hq9
          have HNQ := Lib.hid hq9
          obtain ⟨aq, cq, rfl, _⟩ := hq9.open_
          have hdq : (digs Q).length = 0 ↔ Q = 0 := digs_zero_iff
          generalize (digs Q).length = mq at *
          clear hq9 w1 w2 w3 hu0 hu1 hu2 hu3 hu4 hu5 hu6 hu7 hu8 hu9 hu10 hu11 hu12 hu13 hu14 hu15 hu16
          clear HNY HND
          replace HB_r := Lib.hid (HB_r.out.ext hbz)
          replace HB_x := Lib.hid (HB_x.out.ext hbz)
          replace HW := Lib.hid (ext_trans HW.out hbz)
          clear c_x_0 c_x_1 c_x_2
          clear hbz
          refine tail_none (P := Tryz.prog) (ops := #[]) ?_
          simp only [Act.put, List.setIfInBounds_toArray, List.set_cons_succ, List.set_cons_zero]
          go_wp2_with fail
          refine (digits_at Q _ w4' HNQ.out (by omega)).mono ?_
          rintro e w5' ⟨rfl, hbz⟩
          obtain ⟨S0, hS0⟩ : ∃ S, strOf (decS Q) = S := ⟨_, rfl⟩
          have hsz : S0.size = (decS Q).length := by rw [← hS0, strOf_size]
          have hs1 : 1 ≤ S0.size := by rw [hsz]; exact List.length_pos_iff.2 (decS_ne Q)
          have hs2 : S0.size ≤ 50000 := by
            have := dec_of_wlen wQ (by omega)
            omega
          rw [hS0]
          have HS0 := Lib.hid hS0
          have HSZ := Lib.hid hsz
          clear hS0 hsz
          replace HB_r := Lib.hid (HB_r.out.ext hbz)
          replace HB_x := Lib.hid (HB_x.out.ext hbz)
          replace HNQ := Lib.hid (HNQ.out.ext hbz)
          replace HW := Lib.hid (ext_trans HW.out hbz)
          clear hbz
          by_cases hp : pn = 0
          · have HSV : Hid (S0 = strOf (dcB pn (decS Q))) := Lib.hid (by rw [← HS0.out]; unfold dcB; rw [if_pos hp])
            have hp9 : ¬ (0 < pn) := by omega
            clear hp
            go_upto_region 17 with (fail)
            cases b with
            | false =>
              have c_x_0 : w5'.cell? ⟨b_x, 0, none⟩ = some (.bool false) := HB_x.out.2 0
              have c_x_1 : w5'.cell? ⟨b_x, 1, none⟩ = some (.slice p1 m1 c1) := HB_x.out.2 1
              have c_x_2 : w5'.cell? ⟨b_x, 2, none⟩ = some (.slice p2 m2 c2) := HB_x.out.2 2
              go_wp2
              exact bodyPost_ret (v := .tuple #[.string (S0), .int .i64 0]) (by simp [results, Tryz.results25, go_sem]) rfl ⟨by rw [HO.out.1, HO.out.2]; rw [HSV.out]; rfl, HW.out⟩
            | true =>
              by_cases hq0 : Q = 0
              · have hm0 : mq = 0 := hdq.2 hq0
                have HQ9 : Hid (decide (0 < Q) = false) := Lib.hid (decide_eq_false (by omega))
                subst hm0
                clear hq0 hdq
                have c_x_0 : w5'.cell? ⟨b_x, 0, none⟩ = some (.bool true) := HB_x.out.2 0
                have c_x_1 : w5'.cell? ⟨b_x, 1, none⟩ = some (.slice p1 m1 c1) := HB_x.out.2 1
                have c_x_2 : w5'.cell? ⟨b_x, 2, none⟩ = some (.slice p2 m2 c2) := HB_x.out.2 2
                go_wp2
                exact bodyPost_ret (v := .tuple #[.string (S0), .int .i64 0]) (by simp [results, Tryz.results25, go_sem]) rfl ⟨by rw [HO.out.1, HO.out.2]; rw [HSV.out, HQ9.out]; rfl, HW.out⟩
              · have hm1 : 0 < mq := Nat.pos_of_ne_zero (fun e => hq0 (hdq.1 e))
                have HQ9 : Hid (decide (0 < Q) = true) := Lib.hid (decide_eq_true (by omega))
                clear hq0 hdq
                have c_x_0 : w5'.cell? ⟨b_x, 0, none⟩ = some (.bool true) := HB_x.out.2 0
                have c_x_1 : w5'.cell? ⟨b_x, 1, none⟩ = some (.slice p1 m1 c1) := HB_x.out.2 1
                have c_x_2 : w5'.cell? ⟨b_x, 2, none⟩ = some (.slice p2 m2 c2) := HB_x.out.2 2
                go_wp2
                exact bodyPost_ret (v := .tuple #[.string (⟨#[45]⟩ ++ S0), .int .i64 0]) (by simp [results, Tryz.results25, go_sem]) rfl ⟨by rw [HO.out.1, HO.out.2]; rw [HSV.out, HQ9.out, cat45]; rfl, HW.out⟩
          by_cases hlen : pn < S0.size
          · have HS1 : Hid (S0 = strOf (dcPad pn (decS Q))) := Lib.hid (by rw [dcPad_big (by rw [← HSZ.out]; exact hlen), HS0.out])
            have hp9 : 0 < pn := by omega
            obtain ⟨k, hk⟩ : ∃ k, S0.size - pn = k := ⟨_, rfl⟩
            have hkp : k + pn = S0.size := by omega
            have hkI : (S0.size : Int) - (pn : Int) = (k : Int) := by omega
            have HSV : Hid (S0.extract 0 k ++ ⟨#[46]⟩ ++ S0.extract k S0.size = strOf (dcB pn (decS Q))) := Lib.hid (by rw [← hk, HS1.out, dot_is, strOf_size]; unfold dcB; rw [if_neg hp]; rfl)
            have hbd : -9223372036854775808 ≤ (S0.size : Int) - (pn : Int) ∧ (S0.size : Int) - (pn : Int) ≤ 9223372036854775807 := by omega
            have e3 : IntKind.i64.wrap ((S0.size : Int) - (pn : Int)) = (k : Int) := (IntWalk.i64_in _ hbd).trans hkI
            have hk0 : (0 : Int) ≤ (k : Int) := Int.natCast_nonneg _
            have hk1 : (k : Int) ≤ (S0.size : Int) := by omega
            clear hk hkI hkp hbd hp
            go_upto_region 16 with (fail)
            go_quiet (fail)
            have hbz : Below w5'.heap.size w5' (w5'.drewN nq) := below_drewN (Below.refl _ _) nq
            generalize w5'.drewN nq = w6' at *
            clear e3
            replace HB_r := Lib.hid (HB_r.out.ext hbz)
            replace HB_x := Lib.hid (HB_x.out.ext hbz)
            replace HNQ := Lib.hid (HNQ.out.ext hbz)
            replace HW := Lib.hid (ext_trans HW.out hbz)
            clear hbz
            have hts : (strOf (dcB pn (decS Q))).size ≤ 200000 := by
              have h46 : (⟨#[46]⟩ : ByteArray).size = 1 := rfl
              rw [← HSV.out, ByteArray.size_append, ByteArray.size_append, ByteArray.size_extract, ByteArray.size_extract, h46]
              omega
            rw [HSV.out]
            generalize hT9 : strOf (dcB pn (decS Q)) = T9 at *
            replace HSV : Hid (T9 = strOf (dcB pn (decS Q))) := Lib.hid hT9.symm
            clear hT9
            cases b with
            | false =>
              have c_x_0 : w6'.cell? ⟨b_x, 0, none⟩ = some (.bool false) := HB_x.out.2 0
              have c_x_1 : w6'.cell? ⟨b_x, 1, none⟩ = some (.slice p1 m1 c1) := HB_x.out.2 1
              have c_x_2 : w6'.cell? ⟨b_x, 2, none⟩ = some (.slice p2 m2 c2) := HB_x.out.2 2
              go_wp2
              exact bodyPost_ret (v := .tuple #[.string (T9), .int .i64 0]) (by simp [results, Tryz.results25, go_sem]) rfl ⟨by rw [HO.out.1, HO.out.2]; rw [HSV.out]; rfl, HW.out⟩
            | true =>
              by_cases hq0 : Q = 0
              · have hm0 : mq = 0 := hdq.2 hq0
                have HQ9 : Hid (decide (0 < Q) = false) := Lib.hid (decide_eq_false (by omega))
                subst hm0
                clear hq0 hdq
                have c_x_0 : w6'.cell? ⟨b_x, 0, none⟩ = some (.bool true) := HB_x.out.2 0
                have c_x_1 : w6'.cell? ⟨b_x, 1, none⟩ = some (.slice p1 m1 c1) := HB_x.out.2 1
                have c_x_2 : w6'.cell? ⟨b_x, 2, none⟩ = some (.slice p2 m2 c2) := HB_x.out.2 2
                go_wp2
                exact bodyPost_ret (v := .tuple #[.string (T9), .int .i64 0]) (by simp [results, Tryz.results25, go_sem]) rfl ⟨by rw [HO.out.1, HO.out.2]; rw [HSV.out, HQ9.out]; rfl, HW.out⟩
              · have hm1 : 0 < mq := Nat.pos_of_ne_zero (fun e => hq0 (hdq.1 e))
                have HQ9 : Hid (decide (0 < Q) = true) := Lib.hid (decide_eq_true (by omega))
                clear hq0 hdq
                have c_x_0 : w6'.cell? ⟨b_x, 0, none⟩ = some (.bool true) := HB_x.out.2 0
                have c_x_1 : w6'.cell? ⟨b_x, 1, none⟩ = some (.slice p1 m1 c1) := HB_x.out.2 1
                have c_x_2 : w6'.cell? ⟨b_x, 2, none⟩ = some (.slice p2 m2 c2) := HB_x.out.2 2
                go_wp2
                exact bodyPost_ret (v := .tuple #[.string (⟨#[45]⟩ ++ T9), .int .i64 0]) (by simp [results, Tryz.results25, go_sem]) rfl ⟨by rw [HO.out.1, HO.out.2]; rw [HSV.out, HQ9.out, cat45]; rfl, HW.out⟩
          · have hp9 : 0 < pn := by omega
            obtain ⟨z, hz⟩ : ∃ z, pn + 1 - S0.size = z := ⟨_, rfl⟩
            have hz9 : z ≤ 1000 := by omega
            have hzI : (pn : Int) + 1 - (S0.size : Int) = (z : Int) := by omega
            obtain ⟨Z, hZ⟩ : ∃ Z, Z = strOf (List.replicate z 48) := ⟨_, rfl⟩
            have HZ := Lib.hid hZ
            have hZs : Z.size = z := by rw [hZ, strOf_size, List.length_replicate]
            have hlen' : S0.size ≤ pn := by omega
            have hbd : -9223372036854775808 ≤ (pn : Int) + 1 - (S0.size : Int) ∧ (pn : Int) + 1 - (S0.size : Int) ≤ 9223372036854775807 := by omega
            have HZ9 := Lib.hid hz
            have hszs : Z.size + S0.size = pn + 1 := by omega
            have e1 : IntKind.i64.wrap ((pn : Int) + 1) = (pn : Int) + 1 := IntWalk.i64_in _ (by omega)
            have e2 : IntKind.i64.wrap ((pn : Int) + 1 - (S0.size : Int)) = (z : Int) := (IntWalk.i64_in _ hbd).trans hzI
            clear hz hzI hbd hZ hlen
            go_wp2_with fail
            refine (rep_at z hz9 Z HZ.out _ rfl w5').mono ?_
            rintro e w6' ⟨rfl, hbz⟩
            replace HB_r := Lib.hid (HB_r.out.ext hbz)
            replace HB_x := Lib.hid (HB_x.out.ext hbz)
            replace HNQ := Lib.hid (HNQ.out.ext hbz)
            replace HW := Lib.hid (ext_trans HW.out hbz)
            clear hbz
            clear e1 e2
            go_upto_region 15 with (fail)
            obtain ⟨S1, hS1⟩ : ∃ S, Z ++ S0 = S := ⟨_, rfl⟩
            have HS1 : Hid (S1 = strOf (dcPad pn (decS Q))) := Lib.hid (by rw [← hS1, HZ.out, ← HS0.out, cat_is, ← HZ9.out, HSZ.out]; rfl)
            have hs3 : pn + 1 ≤ S1.size := by rw [← hS1, ByteArray.size_append]; omega
            have hs4 : S1.size ≤ pn + 1 := by rw [← hS1, ByteArray.size_append]; omega
            rw [hS1]
            clear hS1 HZ HZ9 hszs hZs
            obtain ⟨k, hk⟩ : ∃ k, S1.size - pn = k := ⟨_, rfl⟩
            have hkp : k + pn = S1.size := by omega
            have hkI : (S1.size : Int) - (pn : Int) = (k : Int) := by omega
            have HSV : Hid (S1.extract 0 k ++ ⟨#[46]⟩ ++ S1.extract k S1.size = strOf (dcB pn (decS Q))) := Lib.hid (by rw [← hk, HS1.out, dot_is, strOf_size]; unfold dcB; rw [if_neg hp]; rfl)
            have hbd : -9223372036854775808 ≤ (S1.size : Int) - (pn : Int) ∧ (S1.size : Int) - (pn : Int) ≤ 9223372036854775807 := by omega
            have e3 : IntKind.i64.wrap ((S1.size : Int) - (pn : Int)) = (k : Int) := (IntWalk.i64_in _ hbd).trans hkI
            have hk0 : (0 : Int) ≤ (k : Int) := Int.natCast_nonneg _
            have hk1 : (k : Int) ≤ (S1.size : Int) := by omega
            clear hk hkI hkp hbd hp
            go_upto_region 16 with (fail)
            go_quiet (fail)
            have hbz : Below w6'.heap.size w6' (w6'.drewN nq) := below_drewN (Below.refl _ _) nq
            generalize w6'.drewN nq = w7' at *
            clear e3
            replace HB_r := Lib.hid (HB_r.out.ext hbz)
            replace HB_x := Lib.hid (HB_x.out.ext hbz)
            replace HNQ := Lib.hid (HNQ.out.ext hbz)
            replace HW := Lib.hid (ext_trans HW.out hbz)
            clear hbz
            have hts : (strOf (dcB pn (decS Q))).size ≤ 200000 := by
              have h46 : (⟨#[46]⟩ : ByteArray).size = 1 := rfl
              rw [← HSV.out, ByteArray.size_append, ByteArray.size_append, ByteArray.size_extract, ByteArray.size_extract, h46]
              omega
            rw [HSV.out]
            generalize hT9 : strOf (dcB pn (decS Q)) = T9 at *
            replace HSV : Hid (T9 = strOf (dcB pn (decS Q))) := Lib.hid hT9.symm
            clear hT9
            cases b with
            | false =>
              have c_x_0 : w7'.cell? ⟨b_x, 0, none⟩ = some (.bool false) := HB_x.out.2 0
              have c_x_1 : w7'.cell? ⟨b_x, 1, none⟩ = some (.slice p1 m1 c1) := HB_x.out.2 1
              have c_x_2 : w7'.cell? ⟨b_x, 2, none⟩ = some (.slice p2 m2 c2) := HB_x.out.2 2
              go_wp2
              exact bodyPost_ret (v := .tuple #[.string (T9), .int .i64 0]) (by simp [results, Tryz.results25, go_sem]) rfl ⟨by rw [HO.out.1, HO.out.2]; rw [HSV.out]; rfl, HW.out⟩
            | true =>
              by_cases hq0 : Q = 0
              · have hm0 : mq = 0 := hdq.2 hq0
                have HQ9 : Hid (decide (0 < Q) = false) := Lib.hid (decide_eq_false (by omega))
                subst hm0
                clear hq0 hdq
                have c_x_0 : w7'.cell? ⟨b_x, 0, none⟩ = some (.bool true) := HB_x.out.2 0
                have c_x_1 : w7'.cell? ⟨b_x, 1, none⟩ = some (.slice p1 m1 c1) := HB_x.out.2 1
                have c_x_2 : w7'.cell? ⟨b_x, 2, none⟩ = some (.slice p2 m2 c2) := HB_x.out.2 2
                go_wp2
                exact bodyPost_ret (v := .tuple #[.string (T9), .int .i64 0]) (by simp [results, Tryz.results25, go_sem]) rfl ⟨by rw [HO.out.1, HO.out.2]; rw [HSV.out, HQ9.out]; rfl, HW.out⟩
              · have hm1 : 0 < mq := Nat.pos_of_ne_zero (fun e => hq0 (hdq.1 e))
                have HQ9 : Hid (decide (0 < Q) = true) := Lib.hid (decide_eq_true (by omega))
                clear hq0 hdq
                have c_x_0 : w7'.cell? ⟨b_x, 0, none⟩ = some (.bool true) := HB_x.out.2 0
                have c_x_1 : w7'.cell? ⟨b_x, 1, none⟩ = some (.slice p1 m1 c1) := HB_x.out.2 1
                have c_x_2 : w7'.cell? ⟨b_x, 2, none⟩ = some (.slice p2 m2 c2) := HB_x.out.2 2
                go_wp2
                exact bodyPost_ret (v := .tuple #[.string (⟨#[45]⟩ ++ T9), .int .i64 0]) (by simp [results, Tryz.results25, go_sem]) rfl ⟨by rw [HO.out.1, HO.out.2]; rw [HSV.out, HQ9.out, cat45]; rfl, HW.out⟩
    · have HO : Hid (dcmS n d p = ⟨#[]⟩ ∧ dcmF n d p = 1) := by
        have e : dcmF n d p = 1 := by unfold dcmF; rw [if_neg (fun h => h hz), if_neg hp]
        exact Lib.hid ⟨by unfold dcmS; rw [if_neg (by rw [e]; decide)], e⟩
      by_cases g1 : p < 0
      · clear hp hz
        go_wp2
        exact bodyPost_ret (v := .tuple #[.string ⟨#[]⟩, .int .i64 (1)]) (by simp [results, Tryz.results25, go_sem]) rfl ⟨by rw [HO.out.1, HO.out.2], HW.out⟩
      · have g2 : 30 < p := by omega
        clear hp hz
        go_wp2
        exact bodyPost_ret (v := .tuple #[.string ⟨#[]⟩, .int .i64 (1)]) (by simp [results, Tryz.results25, go_sem]) rfl ⟨by rw [HO.out.1, HO.out.2], HW.out⟩
  · have HO : Hid (dcmS n d p = ⟨#[]⟩ ∧ dcmF n d p = rF n d) := by
      have e : dcmF n d p = rF n d := by unfold dcmF; rw [if_pos hz]
      exact Lib.hid ⟨by unfold dcmS; rw [if_neg (by rw [e]; exact hz)], e⟩
    have hne : (rF n d != 0) = true := by simp [hz]
    clear hz
    go_wp2
    exact bodyPost_ret (v := .tuple #[.string ⟨#[]⟩, .int .i64 (rF n d)]) (by simp [results, Tryz.results25, go_sem]) rfl ⟨by rw [HO.out.1, HO.out.2], HW.out⟩
end Nm
end Go.Proofs.YtmnmepbljegjeaaGreatDoor
