/- readAll of package decide. Printed by gen_sevb.py. side of the reference: the capitals of bets on up. Printed by gen_side.py. -/
import Derived.Test.YtgfhbnbmpbhpfaaGreatDoorBu32
import Derived.Test.YtgfhbnbmpbhpfaaGreatDoorBu01
import Derived.Test.YtgfhbnbmpbhpfaaGreatDoorBu31
namespace Go.Proofs.YtgfhbnbmpbhpfaaGreatDoor
open Go.RowKit
namespace Nm
structure Y3 where
  b : Bool
  a1 : Option Addr
  n1 : Nat
  c1 : Nat
  a2 : Option Addr
  n2 : Nat
  c2 : Nat
def y3L (t : Y3) : List Value := [.bool t.b, .slice t.a1 t.n1 t.c1, .slice t.a2 t.n2 t.c2]
def y3V (t : Y3) : Value := xv t.b t.a1 t.n1 t.c1 t.a2 t.n2 t.c2
theorem xrat_info : (Tryz.prog.info? 104).map (fun i => (i.zero, i.size, i.bytes)) = some (some (.agg #[.bool false, .slice none 0 0, .slice none 0 0]), 3, 56) := by kernel_rfl
/-- numbers read so far, in a row of the call's own -/
structure XL (w wr : World) (base : Nat) (gs : List RT) (v : Value) (k : Nat) (xs : List Y3) : Prop where
  low : Below w.heap.size w wr
  own : wr.ownsRow base 104 3 v k (xs.flatMap y3L)
  q : RowQ NW wr v
  len : xs.length = k
  ok : ∀ (i : Nat) x r, xs[i]? = some x → gs[i]? = some r → XR wr (y3V x) (rQ r.n r.d)
  bs : base ≤ wr.heap.size
  lw : w.heap.size ≤ base
theorem XL.ext {w wr w' : World} {base : Nat} {gs : List RT} {v : Value} {k : Nat} {xs : List Y3} (h : XL w wr base gs v k xs) (hb : Below wr.heap.size wr w') : XL w w' base gs v k xs :=
  ⟨ext_trans h.low hb, ownsRow_ext h.own hb, h.q.ext h.own hb, h.len, fun i x r h1 h2 => (h.ok i x r h1 h2).ext hb, Nat.le_trans h.bs hb.size, h.lw⟩
theorem XL.push {w wr w' : World} {base : Nat} {gs : List RT} {v v' : Value} {k : Nat} {xs : List Y3} (h : XL w wr base gs v k xs) (x : Y3) (hg : wr.grownBy w' v.ownBlock)
    (hown : w'.ownsRow base 104 3 v' (k + 1) (xs.flatMap y3L ++ y3L x)) (hq : RowQ NW w' v') {r : RT} (hr : gs[k]? = some r) (hx : XR wr (y3V x) (rQ r.n r.d)) : XL w w' base gs v' (k + 1) (xs ++ [x]) := by
  have lt : ∀ q, v.ownBlock = some q → base ≤ q := fun q e => (h.own.lt q e).1
  have h1 := h.lw
  refine ⟨h.low.grown hg h.low.size (fun q e => by have := lt q e; omega), ?_, hq, by rw [List.length_append, h.len]; rfl, ?_, Nat.le_trans h.bs hg.size, h1⟩
  · rw [List.flatMap_append]; simpa using hown
  · intro i x' r' e1 e2
    rcases Nat.lt_or_ge i k with hi | hi
    · rw [List.getElem?_append_left (by rw [h.len]; exact hi)] at e1
      exact (h.ok i x' r' e1 e2).keepQ h.q hg
    · rw [List.getElem?_append_right (by rw [h.len]; exact hi), h.len] at e1
      have hi' : i - k = 0 := by
        rcases Nat.eq_zero_or_pos (i - k) with h0 | h0
        · exact h0
        · rw [List.getElem?_eq_none (by simp; omega)] at e1; cases e1
      rw [hi'] at e1
      obtain rfl : x = x' := by simpa using e1
      have hik : i = k := by omega
      subst hik
      rw [hr] at e2
      cases e2
      exact hx.keepQ h.q hg
/-- numbers that lie in memory as the ratios of a list say -/
structure XsOf (w : World) (gs : List RT) (xs : List Y3) (a : Option Addr) (c : Nat) : Prop where
  len : xs.length = gs.length
  sl : Sl w (.slice a xs.length c) xs.length (xs.flatMap y3L)
  ok : ∀ (i : Nat) x r, xs[i]? = some x → gs[i]? = some r → XR w (y3V x) (rQ r.n r.d)
theorem XsOf.ext {w w' : World} {gs : List RT} {xs : List Y3} {a : Option Addr} {c : Nat} (h : XsOf w gs xs a c) (hb : Below w.heap.size w w') : XsOf w' gs xs a c :=
  ⟨h.len, h.sl.ext hb, fun i x r h1 h2 => (h.ok i x r h1 h2).ext hb⟩
def XsIf (w : World) (f : Int) (gs : List RT) (xs : List Y3) (a : Option Addr) (c : Nat) : Prop := f = 0 → XsOf w gs xs a c
theorem XsIf.ext {w w' : World} {f : Int} {gs : List RT} {xs : List Y3} {a : Option Addr} {c : Nat} (h : XsIf w f gs xs a c) (hb : Below w.heap.size w w') : XsIf w' f gs xs a c := fun h0 => (h h0).ext hb
def AllPost (w : World) (l : List RT) (e : Ending) (w' : World) : Prop := ∃ a3 c3 xs, e = .returned (.tuple #[.slice a3 xs.length c3, .int .i64 (allF l)]) ∧ XsIf w' (allF l) l xs a3 c3 ∧ (allF l = 0 → ∃ g, a3 = some ⟨g, 0, none⟩ ∧ w.heap.size ≤ g) ∧ Below w.heap.size w w'
theorem own_fresh {w : World} {base e size n : Nat} {v : Value} {xs : List Value} (h : w.ownsRow base e size v n xs) (hn : 0 < n) : ∃ g cap, v = .slice (some ⟨g, 0, none⟩) n cap ∧ base ≤ g := by
  obtain ⟨h1, ⟨_, h2⟩ | ⟨g, cap, cur, rfl, hb, _⟩⟩ := h
  · omega
  · exact ⟨g, cap, rfl, hb⟩
set_option maxRecDepth 100000 in
set_option maxHeartbeats 8000000 in
theorem readAll_at (l : List RT) (hok : ∀ r ∈ l, rtOk r) (a : Option Addr) (c : Nat) (w : World) (hs : Sl w (.slice a l.length c) l.length (l.flatMap rtL)) : Calls Tryz.prog 94 #[.slice a l.length c] w (AllPost w l) := by
  have HS := Lib.hid hs
  have HGS := Lib.hid hok
  have HI := Lib.hid xrat_info
  clear hs hok
  go_enter Tryz.func94, Tryz.ntmps94
  go_wp2_with fail
  refine (checkManyP_at l.length a c w).mono ?_
  rintro e w1' ⟨rfl, hw9⟩
  have hbz : Below w.heap.size w w1' := by rw [← hw9]; exact Below.refl _ _
  clear hw9
  have HW := Lib.hid hbz
  clear hbz
  by_cases hf : mF l.length = 0
  · have hne : (mF l.length != 0) = false := by simp [hf]
    have HV : Hid (allF l = aF l) := Lib.hid (by unfold allF; rw [if_neg (fun h => h hf)])
    obtain ⟨hl1, hl10⟩ := mF_ok hf
    clear hf
    obtain ⟨base, HBASE⟩ : ∃ base, Hid (w1'.heap.size = base) := ⟨_, rfl⟩
    have HXL : Hid (XL w1' w1' base l (.slice none 0 0) 0 []) := ⟨Below.refl _ _, World.ownsRow_nil _ _ _ _, RowQ.nil _ _, rfl, fun i x r h => by simp at h, by rw [HBASE.out]; exact Nat.le_refl _, by rw [← HBASE.out]; exact Nat.le_refl _⟩
    have HW0 := HW
    clear HW
    go_wp2
    go_loopw [5, 9, 17] (fun s _ i wr => ∃ (k : Nat) (xs : List Y3), k ≤ l.length ∧ i = .int .i64 (k : Int) ∧ Hid (aF l = aF (l.drop k)) ∧ Hid (XL w1' wr base l s k xs)) (fun _ _ i _ => l.length - (intOf i).toNat)
    case atStart => exact ⟨0, [], by omega, rfl, rfl, HXL⟩
    case round =>
      clear HXL
      obtain ⟨k, xs, hk, rfl, HK, HXL⟩ := hrel
      generalize hX : wr = X at *
      clear hX
      have HW := Lib.hid (ext_trans HW0.out HXL.out.low)
      by_cases hlt : k < l.length
      · have HGK := Lib.hid (List.getElem?_eq_getElem hlt)
        have hgk := List.getElem?_eq_getElem hlt
        have hok := HGS.out _ (List.getElem_mem hlt)
        generalize l[k] = r at hgk hok HGK
        obtain ⟨rn, rd⟩ := r
        have HST := Lib.hid (HK.out.trans (aF_step hgk))
        obtain ⟨pb, po, hp9, hcs⟩ := (HS.out.ext HW.out).elem (f := rtL) (fun _ => rfl) (by omega : 0 < 2) hgk
        have e0 := hcs 0 _ rfl
        have e1 := hcs 1 _ rfl
        rw [Nat.add_zero] at e0
        simp only at HST e0 e1
        subst hp9
        have hk0 : (0 : Int) ≤ (k : Int) := Int.natCast_nonneg _
        have hk1 : (k : Int) < (l.length : Int) := by omega
        obtain ⟨ho1, ho2⟩ := hok
        clear hcs HK hgk
        go_upto_region 8 with (fail)
        refine wp_box1 fun w2' hsz hbz hC => ?_
        clear hsz
        have le_r : w.heap.size ≤ X.heap.size := HW.out.size
        replace HXL := Lib.hid (HXL.out.ext hbz)
        replace HW := Lib.hid (ext_trans HW.out hbz)
        clear hbz e0 e1
        have HB_r := Lib.hid hC
        clear hC
        generalize X.heap.size = b_r at *
        have c_r_0 : w2'.cell? ⟨b_r, 0, none⟩ = some (.string rn) := HB_r.out.2 0
        have c_r_1 : w2'.cell? ⟨b_r, 1, none⟩ = some (.string rd) := HB_r.out.2 1
        go_wp2_with fail
        refine (readPart_at rn rd ho1 ho2 w2').mono ?_
        rintro e w3' ⟨b, a1, n1, c1, a2, n2, c2, rfl, hx9, hbz⟩
        have HX9 := Lib.hid hx9
        clear hx9
        replace HB_r := Lib.hid (HB_r.out.ext hbz)
        replace HXL := Lib.hid (HXL.out.ext hbz)
        replace HW := Lib.hid (ext_trans HW.out hbz)
        clear c_r_0 c_r_1
        clear hbz
        go_upto_region 9 with (fail)
        refine wp_box1 fun w4' hsz hbz hC => ?_
        clear hsz
        have lt_r_x : b_r < w3'.heap.size := HB_r.out.1
        have le_x : w.heap.size ≤ w3'.heap.size := HW.out.size
        replace HB_r := Lib.hid (HB_r.out.ext hbz)
        replace HXL := Lib.hid (HXL.out.ext hbz)
        replace HX9 := Lib.hid (HX9.out.ext hbz)
        replace HW := Lib.hid (ext_trans HW.out hbz)
        clear hbz
        have HB_x := Lib.hid hC
        clear hC
        generalize w3'.heap.size = b_x at *
        by_cases hg : partF rn rd = 0
        · have hne2 : (partF rn rd != 0) = false := by simp [hg]
          have HN : Hid (aF l = aF (l.drop (k + 1))) := Lib.hid (HST.out.trans (if_neg (fun h => h hg)))
          have HX8 := Lib.hid (HX9.out hg)
          clear hg HST
          have c_x_0 : w4'.cell? ⟨b_x, 0, none⟩ = some (.bool b) := HB_x.out.2 0
          have c_x_1 : w4'.cell? ⟨b_x, 1, none⟩ = some (.slice a1 n1 c1) := HB_x.out.2 1
          have c_x_2 : w4'.cell? ⟨b_x, 2, none⟩ = some (.slice a2 n2 c2) := HB_x.out.2 2
          have HAL := Lib.hid (HXL.out.ext (ext_alloc w4' (.cells #[.bool b, .slice a1 n1 c1, .slice a2 n2 c2] 104)))
          have HXA := Lib.hid (HX8.out.ext (ext_alloc w4' (.cells #[.bool b, .slice a1 n1 c1, .slice a2 n2 c2] 104)))
          have hk2 : k + 1 ≤ maxLen := by unfold maxLen; omega
          go_wp2_with (at_builtin; refine wpList_append_q NW rfl _ _ 112 rfl base 104 Tryz.underlying112 HI.out rfl (by decide) rfl HAL.out.own rfl (Sl.new w4' #[.bool b, .slice a1 n1 c1, .slice a2 n2 c2] _ 1 1 (by omega) (by decide)) rfl (by intro u hu; simp at hu; rcases hu with rfl | rfl | rfl <;> rfl) hk2 (by omega) HAL.out.bs HAL.out.q (by intro u hu; simp [Value.cells] at hu; rcases hu with rfl | rfl <;> rfl) (by intro u hu; simp at hu; rcases hu with rfl | rfl | rfl <;> rfl) ?_; intro v7 w7 hown7 hg7 hat7 hq7; have HX7 := Lib.hid (HAL.out.push ⟨b, a1, n1, c1, a2, n2, c2⟩ hg7 hown7 hq7 HGK.out HXA.out); clear hown7 hg7 hat7 hq7)
          go_roundw
          case rel => exact ⟨k + 1, _, by omega, by go_num, HN, HX7⟩
          case measure => simp [intOf]; omega
        · have hne2 : (partF rn rd != 0) = true := by simp [hg]
          replace HV : Hid (allF l = partF rn rd) := Lib.hid (HV.out.trans (HST.out.trans (if_pos hg)))
          have HNE := Lib.hid hg
          clear hg HST
          go_wp2
          exact bodyPost_ret (v := .tuple #[.slice none 0 0, .int .i64 (partF rn rd)]) (by simp [results, Tryz.results94, go_sem]) rfl ⟨none, 0, [], by rw [HV.out]; rfl, (fun h => absurd h (by rw [HV.out]; exact HNE.out)), (fun h => absurd h (by rw [HV.out]; exact HNE.out)), HW.out⟩
      · have hkl : k = l.length := by omega
        subst hkl
        replace HV : Hid (allF l = 0) := Lib.hid (by rw [HV.out, HK.out, List.drop_of_length_le (Nat.le_refl _)]; rfl)
        obtain ⟨g9, c9, rfl, hbg⟩ := own_fresh HXL.out.own (by omega)
        have HBG := Lib.hid (Nat.le_trans HW0.out.size (Nat.le_trans HXL.out.lw hbg))
        clear hbg
        have HLX : Hid (xs.length = l.length) := Lib.hid HXL.out.len
        go_wp2
        exact bodyPost_ret (v := .tuple #[.slice (some ⟨g9, 0, none⟩) l.length c9, .int .i64 0]) (by simp [results, Tryz.results94, go_sem]) rfl ⟨some ⟨g9, 0, none⟩, c9, xs, by rw [HV.out, HLX.out], (fun _ => ⟨HLX.out, by rw [HLX.out]; exact Sl.ofOwn HXL.out.own, HXL.out.ok⟩), (fun _ => ⟨g9, rfl, HBG.out⟩), HW.out⟩
  · have HV : Hid (allF l = mF l.length) := Lib.hid (by unfold allF; rw [if_pos hf])
    have HNE : Hid (mF l.length ≠ 0) := Lib.hid hf
    have hne : (mF l.length != 0) = true := by simp [hf]
    clear hf
    go_wp2
    exact bodyPost_ret (v := .tuple #[.slice none 0 0, .int .i64 (mF l.length)]) (by simp [results, Tryz.results94, go_sem]) rfl ⟨none, 0, [], by rw [HV.out]; rfl, (fun h => absurd h (by rw [HV.out]; exact HNE.out)), (fun h => absurd h (by rw [HV.out]; exact HNE.out)), HW.out⟩
end Nm
end Go.Proofs.YtgfhbnbmpbhpfaaGreatDoor
namespace Go.Proofs.YtgfhbnbmpbhpfaaGreatDoor
open Go.RowKit
namespace Nm
theorem quoQ_nat (n d : Nat) (hd : 0 < d) : quoQ (n : Int) (d : Int) = (n : Rat) / (d : Rat) := by
  unfold quoQ
  rw [dif_neg (by omega)]
  have h : (decide ((n : Int) < 0) != decide ((d : Int) < 0)) = false := by
    rw [decide_eq_false (by omega), decide_eq_false (by omega)]; rfl
  rw [Rat.normalize_eq_mkRat, h]
  show mkRat (((n : Int).natAbs : Nat) : Int) (d : Int).natAbs = _
  rw [Int.natAbs_natCast, Int.natAbs_natCast, Rat.mkRat_eq_div, Rat.intCast_natCast]
theorem quo_nat {n d : Nat} (hd : 0 < d) (h : Fits ((n : Rat) / (d : Rat))) : quoN (n : Int) (d : Int) = showN ((n : Rat) / (d : Rat)) ∧ quoD (n : Int) (d : Int) = showD ((n : Rat) / (d : Rat)) ∧ quoF (n : Int) (d : Int) = 0 := by
  have h0 : ¬ (d : Int) = 0 := by omega
  unfold quoN quoD quoF
  rw [if_neg h0, if_neg h0, if_neg h0, quoQ_nat n d hd]
  exact out_fits h
end Nm
namespace Nt
open _root_.Go.Proofs.YtgfhbnbmpbhpfaaGreatDoor.Nm (showN showD Fits fits_int Ln AnsPost quo_nat quoN quoD quoF)
theorem ratioOf_is (a b : Int) (n d : Nat) (q : Rat) (hq : (n : Rat) / (d : Rat) = q) (ha : a = (n : Int)) (hb : b = (d : Int)) (hd : 0 < d) (h1 : n ≤ 1000000000000000000) (h2 : d ≤ 1000000000000000000) (h : Fits q) (w : World) (ht : Tab w) :
    Calls Tryz.prog 101 #[.int .i64 a, .int .i64 b] w (AnsPost w (showN q) (showD q) 0) := by
  subst ha; subst hb; subst hq
  have h := refRatioOf_at (n : Int) (d : Int) (by omega) (by omega) (by omega) (by omega) w ht
  rw [(quo_nat hd ‹_›).1, (quo_nat hd ‹_›).2.1, (quo_nat hd ‹_›).2.2] at h
  exact h
theorem times_is (p q r : Rat) (h : p * q = r) (hp : Fits p) (hq : Fits q) (hs : Fits r) (w : World) (ht : Tab w) : Calls Tryz.prog 67 #[rtV p, rtV q] w (RtP w r) := by subst h; exact mTimesQ p q hp hq hs w ht
theorem plus_is (p q r : Rat) (h : p + q = r) (hp : Fits p) (hq : Fits q) (hs : Fits r) (w : World) (ht : Tab w) : Calls Tryz.prog 66 #[rtV p, rtV q] w (RtP w r) := by subst h; exact mPlusQ p q hp hq hs w ht
theorem minus_is (p q r : Rat) (h : p - q = r) (hp : Fits p) (hq : Fits q) (hs : Fits r) (w : World) (ht : Tab w) : Calls Tryz.prog 44 #[rtV p, rtV q] w (RtP w r) := by subst h; exact mMinusQ p q hp hq hs w ht
theorem over_is (p q r : Rat) (h : p / q = r) (hp : Fits p) (hq : Fits q) (h0 : q ≠ 0) (hs : Fits r) (w : World) (ht : Tab w) : Calls Tryz.prog 64 #[rtV p, rtV q] w (RtP w r) := by subst h; exact mOverQ p q hp hq h0 hs w ht
theorem whole_is (z : Int) (n : Nat) (hz : z = (n : Int)) (hn : n ≤ 9223372036854775807) (w : World) (ht : Tab w) : Calls Tryz.prog 37 #[.int .i64 z] w (RtP w ((n : Nat) : Rat)) := by
  subst hz
  have h := mWholeQ (n : Int) (by omega) (by omega) w ht
  rw [Rat.intCast_natCast] at h
  exact h
end Nt
end Go.Proofs.YtgfhbnbmpbhpfaaGreatDoor
