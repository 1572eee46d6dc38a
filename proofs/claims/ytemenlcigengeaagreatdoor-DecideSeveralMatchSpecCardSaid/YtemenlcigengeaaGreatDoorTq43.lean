/- readAll of package decide. Printed by gen_sevb.py. Together of both. Printed by gen_sevt.py. slices.SortStableFunc at a short row of ints, the order a closure that may lay blocks. -/
import Derived.Test.YtemenlcigengeaaGreatDoorTq42
import Derived.Test.YtemenlcigengeaaGreatDoorTq41
import Derived.Test.YtemenlcigengeaaGreatDoorTq36
import Derived.Test.YtemenlcigengeaaGreatDoorProg
import Derived.Test.YtemenlcigengeaaGreatDoorTq00
import Derived.Test.YtemenlcigengeaaGreatDoorTq03
import Derived.Test.YtemenlcigengeaaGreatDoorTq05
import Derived.Test.YtemenlcigengeaaGreatDoorTq16
import Derived.Test.YtemenlcigengeaaGreatDoorTq06
import Derived.Test.YtemenlcigengeaaGreatDoorTq07
import Derived.Test.YtemenlcigengeaaGreatDoorTq08
import Derived.Test.YtemenlcigengeaaGreatDoorTq17
import Derived.Test.YtemenlcigengeaaGreatDoorTq18
import Derived.Test.YtemenlcigengeaaGreatDoorTq19
import Derived.Test.YtemenlcigengeaaGreatDoorTq20
import Derived.Test.YtemenlcigengeaaGreatDoorTq21
import Derived.Test.YtemenlcigengeaaGreatDoorTq23
import Derived.Shelf.SlSortCmp.Insertion
import Derived.Sort.LotA
import Derived.Deep.LoopGhost
import Derived.Deep.QuietTactic
namespace Go.Proofs.YtemenlcigengeaaGreatDoor
open Go.RowKit
namespace Nm
structure Y3 where
  b : Bool
  a1 : Option Addr
  n1 : Nat
  c1 : Nat
  a2 : Option Addr
  n2 : Nat
  c2 : Nat
def y3L (t : Y3) : List Value := [.bool t.b, .slice t.a1 t.n1 t.c1, .slice t.a2 t.n2 t.c2]
def y3V (t : Y3) : Value := xv t.b t.a1 t.n1 t.c1 t.a2 t.n2 t.c2
theorem xrat_info : (Tryz.prog.info? 68).map (fun i => (i.zero, i.size, i.bytes)) = some (some (.agg #[.bool false, .slice none 0 0, .slice none 0 0]), 3, 56) := by kernel_rfl
/-- numbers read so far, in a row of the call's own -/
structure XL (w wr : World) (base : Nat) (gs : List RT) (v : Value) (k : Nat) (xs : List Y3) : Prop where
  low : Below w.heap.size w wr
  own : wr.ownsRow base 68 3 v k (xs.flatMap y3L)
  q : RowQ NW wr v
  len : xs.length = k
  ok : ∀ (i : Nat) x r, xs[i]? = some x → gs[i]? = some r → XR wr (y3V x) (rQ r.n r.d)
  bs : base ≤ wr.heap.size
  lw : w.heap.size ≤ base
theorem XL.ext {w wr w' : World} {base : Nat} {gs : List RT} {v : Value} {k : Nat} {xs : List Y3} (h : XL w wr base gs v k xs) (hb : Below wr.heap.size wr w') : XL w w' base gs v k xs :=
  ⟨ext_trans h.low hb, ownsRow_ext h.own hb, h.q.ext h.own hb, h.len, fun i x r h1 h2 => (h.ok i x r h1 h2).ext hb, Nat.le_trans h.bs hb.size, h.lw⟩
theorem XL.push {w wr w' : World} {base : Nat} {gs : List RT} {v v' : Value} {k : Nat} {xs : List Y3} (h : XL w wr base gs v k xs) (x : Y3) (hg : wr.grownBy w' v.ownBlock)
    (hown : w'.ownsRow base 68 3 v' (k + 1) (xs.flatMap y3L ++ y3L x)) (hq : RowQ NW w' v') {r : RT} (hr : gs[k]? = some r) (hx : XR wr (y3V x) (rQ r.n r.d)) : XL w w' base gs v' (k + 1) (xs ++ [x]) := by
  have lt : ∀ q, v.ownBlock = some q → base ≤ q := fun q e => (h.own.lt q e).1
  have h1 := h.lw
  refine ⟨h.low.grown hg h.low.size (fun q e => by have := lt q e; omega), ?_, hq, by rw [List.length_append, h.len]; rfl, ?_, Nat.le_trans h.bs hg.size, h1⟩
  · rw [List.flatMap_append]; simpa using hown
  · intro i x' r' e1 e2
    rcases Nat.lt_or_ge i k with hi | hi
    · rw [List.getElem?_append_left (by rw [h.len]; exact hi)] at e1
      exact (h.ok i x' r' e1 e2).keepQ h.q hg
    · rw [List.getElem?_append_right (by rw [h.len]; exact hi), h.len] at e1
      have hi' : i - k = 0 := by
        rcases Nat.eq_zero_or_pos (i - k) with h0 | h0
        · exact h0
        · rw [List.getElem?_eq_none (by simp; omega)] at e1; cases e1
      rw [hi'] at e1
      obtain rfl : x = x' := by simpa using e1
      have hik : i = k := by omega
      subst hik
      rw [hr] at e2
      cases e2
      exact hx.keepQ h.q hg
/-- numbers that lie in memory as the ratios of a list say -/
structure XsOf (w : World) (gs : List RT) (xs : List Y3) (a : Option Addr) (c : Nat) : Prop where
  len : xs.length = gs.length
  sl : Sl w (.slice a xs.length c) xs.length (xs.flatMap y3L)
  ok : ∀ (i : Nat) x r, xs[i]? = some x → gs[i]? = some r → XR w (y3V x) (rQ r.n r.d)
theorem XsOf.ext {w w' : World} {gs : List RT} {xs : List Y3} {a : Option Addr} {c : Nat} (h : XsOf w gs xs a c) (hb : Below w.heap.size w w') : XsOf w' gs xs a c :=
  ⟨h.len, h.sl.ext hb, fun i x r h1 h2 => (h.ok i x r h1 h2).ext hb⟩
def XsIf (w : World) (f : Int) (gs : List RT) (xs : List Y3) (a : Option Addr) (c : Nat) : Prop := f = 0 → XsOf w gs xs a c
theorem XsIf.ext {w w' : World} {f : Int} {gs : List RT} {xs : List Y3} {a : Option Addr} {c : Nat} (h : XsIf w f gs xs a c) (hb : Below w.heap.size w w') : XsIf w' f gs xs a c := fun h0 => (h h0).ext hb
def AllPost (w : World) (l : List RT) (e : Ending) (w' : World) : Prop := ∃ a3 c3 xs, e = .returned (.tuple #[.slice a3 xs.length c3, .int .i64 (allF l)]) ∧ XsIf w' (allF l) l xs a3 c3 ∧ (allF l = 0 → ∃ g, a3 = some ⟨g, 0, none⟩ ∧ w.heap.size ≤ g) ∧ Below w.heap.size w w'
theorem own_fresh {w : World} {base e size n : Nat} {v : Value} {xs : List Value} (h : w.ownsRow base e size v n xs) (hn : 0 < n) : ∃ g cap, v = .slice (some ⟨g, 0, none⟩) n cap ∧ base ≤ g := by
  obtain ⟨h1, ⟨_, h2⟩ | ⟨g, cap, cur, rfl, hb, _⟩⟩ := h
  · omega
  · exact ⟨g, cap, rfl, hb⟩
set_option maxRecDepth 100000 in
set_option maxHeartbeats 8000000 in
theorem readAll_at (l : List RT) (hok : ∀ r ∈ l, rtOk r) (a : Option Addr) (c : Nat) (w : World) (hs : Sl w (.slice a l.length c) l.length (l.flatMap rtL)) : Calls Tryz.prog 52 #[.slice a l.length c] w (AllPost w l) := by
  have HS := Lib.hid hs
  have HGS := Lib.hid hok
  have HI := Lib.hid xrat_info
  clear hs hok
  go_enter Tryz.func52, Tryz.ntmps52
  go_wp2_with fail
  refine (checkManyP_at l.length a c w).mono ?_
  rintro e w1' ⟨rfl, hw9⟩
  have hbz : Below w.heap.size w w1' := by rw [← hw9]; exact Below.refl _ _
  clear hw9
  have HW := Lib.hid hbz
  clear hbz
  by_cases hf : mF l.length = 0
  · have hne : (mF l.length != 0) = false := by simp [hf]
    have HV : Hid (allF l = aF l) := Lib.hid (by unfold allF; rw [if_neg (fun h => h hf)])
    obtain ⟨hl1, hl10⟩ := mF_ok hf
    clear hf
    obtain ⟨base, HBASE⟩ : ∃ base, Hid (w1'.heap.size = base) := ⟨_, rfl⟩
    have HXL : Hid (XL w1' w1' base l (.slice none 0 0) 0 []) := ⟨Below.refl _ _, World.ownsRow_nil _ _ _ _, RowQ.nil _ _, rfl, fun i x r h => by simp at h, by rw [HBASE.out]; exact Nat.le_refl _, by rw [← HBASE.out]; exact Nat.le_refl _⟩
    have HW0 := HW
    clear HW
    go_wp2
    go_loopw [5, 9, 17] (fun s _ i wr => ∃ (k : Nat) (xs : List Y3), k ≤ l.length ∧ i = .int .i64 (k : Int) ∧ Hid (aF l = aF (l.drop k)) ∧ Hid (XL w1' wr base l s k xs)) (fun _ _ i _ => l.length - (intOf i).toNat)
    case atStart => exact ⟨0, [], by omega, rfl, rfl, HXL⟩
    case round =>
      clear HXL
      obtain ⟨k, xs, hk, rfl, HK, HXL⟩ := hrel
      generalize hX : wr = X at *
      clear hX
      have HW := Lib.hid (ext_trans HW0.out HXL.out.low)
      by_cases hlt : k < l.length
      · have HGK := Lib.hid (List.getElem?_eq_getElem hlt)
        have hgk := List.getElem?_eq_getElem hlt
        have hok := HGS.out _ (List.getElem_mem hlt)
        generalize l[k] = r at hgk hok HGK
        obtain ⟨rn, rd⟩ := r
        have HST := Lib.hid (HK.out.trans (aF_step hgk))
        obtain ⟨pb, po, hp9, hcs⟩ := (HS.out.ext HW.out).elem (f := rtL) (fun _ => rfl) (by omega : 0 < 2) hgk
        have e0 := hcs 0 _ rfl
        have e1 := hcs 1 _ rfl
        rw [Nat.add_zero] at e0
        simp only at HST e0 e1
        subst hp9
        have hk0 : (0 : Int) ≤ (k : Int) := Int.natCast_nonneg _
        have hk1 : (k : Int) < (l.length : Int) := by omega
        obtain ⟨ho1, ho2⟩ := hok
        clear hcs HK hgk
        go_upto_region 8 with (fail)
        refine wp_box1 fun w2' hsz hbz hC => ?_
        clear hsz
        have le_r : w.heap.size ≤ X.heap.size := HW.out.size
        replace HXL := Lib.hid (HXL.out.ext hbz)
        replace HW := Lib.hid (ext_trans HW.out hbz)
        clear hbz e0 e1
        have HB_r := Lib.hid hC
        clear hC
        generalize X.heap.size = b_r at *
        have c_r_0 : w2'.cell? ⟨b_r, 0, none⟩ = some (.string rn) := HB_r.out.2 0
        have c_r_1 : w2'.cell? ⟨b_r, 1, none⟩ = some (.string rd) := HB_r.out.2 1
        go_wp2_with fail
        refine (readPart_at rn rd ho1 ho2 w2').mono ?_
        rintro e w3' ⟨b, a1, n1, c1, a2, n2, c2, rfl, hx9, hbz⟩
        have HX9 := Lib.hid hx9
        clear hx9
        replace HB_r := Lib.hid (HB_r.out.ext hbz)
        replace HXL := Lib.hid (HXL.out.ext hbz)
        replace HW := Lib.hid (ext_trans HW.out hbz)
        clear c_r_0 c_r_1
        clear hbz
        go_upto_region 9 with (fail)
        refine wp_box1 fun w4' hsz hbz hC => ?_
        clear hsz
        have lt_r_x : b_r < w3'.heap.size := HB_r.out.1
        have le_x : w.heap.size ≤ w3'.heap.size := HW.out.size
        replace HB_r := Lib.hid (HB_r.out.ext hbz)
        replace HXL := Lib.hid (HXL.out.ext hbz)
        replace HX9 := Lib.hid (HX9.out.ext hbz)
        replace HW := Lib.hid (ext_trans HW.out hbz)
        clear hbz
        have HB_x := Lib.hid hC
        clear hC
        generalize w3'.heap.size = b_x at *
        by_cases hg : partF rn rd = 0
        · have hne2 : (partF rn rd != 0) = false := by simp [hg]
          have HN : Hid (aF l = aF (l.drop (k + 1))) := Lib.hid (HST.out.trans (if_neg (fun h => h hg)))
          have HX8 := Lib.hid (HX9.out hg)
          clear hg HST
          have c_x_0 : w4'.cell? ⟨b_x, 0, none⟩ = some (.bool b) := HB_x.out.2 0
          have c_x_1 : w4'.cell? ⟨b_x, 1, none⟩ = some (.slice a1 n1 c1) := HB_x.out.2 1
          have c_x_2 : w4'.cell? ⟨b_x, 2, none⟩ = some (.slice a2 n2 c2) := HB_x.out.2 2
          have HAL := Lib.hid (HXL.out.ext (ext_alloc w4' (.cells #[.bool b, .slice a1 n1 c1, .slice a2 n2 c2] 68)))
          have HXA := Lib.hid (HX8.out.ext (ext_alloc w4' (.cells #[.bool b, .slice a1 n1 c1, .slice a2 n2 c2] 68)))
          have hk2 : k + 1 ≤ maxLen := by unfold maxLen; omega
          go_wp2_with (at_builtin; refine wpList_append_q NW rfl _ _ 85 rfl base 68 Tryz.underlying85 HI.out rfl (by decide) rfl HAL.out.own rfl (Sl.new w4' #[.bool b, .slice a1 n1 c1, .slice a2 n2 c2] _ 1 1 (by omega) (by decide)) rfl (by intro u hu; simp at hu; rcases hu with rfl | rfl | rfl <;> rfl) hk2 (by omega) HAL.out.bs HAL.out.q (by intro u hu; simp [Value.cells] at hu; rcases hu with rfl | rfl <;> rfl) (by intro u hu; simp at hu; rcases hu with rfl | rfl | rfl <;> rfl) ?_; intro v7 w7 hown7 hg7 hat7 hq7; have HX7 := Lib.hid (HAL.out.push ⟨b, a1, n1, c1, a2, n2, c2⟩ hg7 hown7 hq7 HGK.out HXA.out); clear hown7 hg7 hat7 hq7)
          go_roundw
          case rel => exact ⟨k + 1, _, by omega, by go_num, HN, HX7⟩
          case measure => simp [intOf]; omega
        · have hne2 : (partF rn rd != 0) = true := by simp [hg]
          replace HV : Hid (allF l = partF rn rd) := Lib.hid (HV.out.trans (HST.out.trans (if_pos hg)))
          have HNE := Lib.hid hg
          clear hg HST
          go_wp2
          exact bodyPost_ret (v := .tuple #[.slice none 0 0, .int .i64 (partF rn rd)]) (by simp [results, Tryz.results52, go_sem]) rfl ⟨none, 0, [], by rw [HV.out]; rfl, (fun h => absurd h (by rw [HV.out]; exact HNE.out)), (fun h => absurd h (by rw [HV.out]; exact HNE.out)), HW.out⟩
      · have hkl : k = l.length := by omega
        subst hkl
        replace HV : Hid (allF l = 0) := Lib.hid (by rw [HV.out, HK.out, List.drop_of_length_le (Nat.le_refl _)]; rfl)
        obtain ⟨g9, c9, rfl, hbg⟩ := own_fresh HXL.out.own (by omega)
        have HBG := Lib.hid (Nat.le_trans HW0.out.size (Nat.le_trans HXL.out.lw hbg))
        clear hbg
        have HLX : Hid (xs.length = l.length) := Lib.hid HXL.out.len
        go_wp2
        exact bodyPost_ret (v := .tuple #[.slice (some ⟨g9, 0, none⟩) l.length c9, .int .i64 0]) (by simp [results, Tryz.results52, go_sem]) rfl ⟨some ⟨g9, 0, none⟩, c9, xs, by rw [HV.out, HLX.out], (fun _ => ⟨HLX.out, by rw [HLX.out]; exact Sl.ofOwn HXL.out.own, HXL.out.ok⟩), (fun _ => ⟨g9, rfl, HBG.out⟩), HW.out⟩
  · have HV : Hid (allF l = mF l.length) := Lib.hid (by unfold allF; rw [if_pos hf])
    have HNE : Hid (mF l.length ≠ 0) := Lib.hid hf
    have hne : (mF l.length != 0) = true := by simp [hf]
    clear hf
    go_wp2
    exact bodyPost_ret (v := .tuple #[.slice none 0 0, .int .i64 (mF l.length)]) (by simp [results, Tryz.results52, go_sem]) rfl ⟨none, 0, [], by rw [HV.out]; rfl, (fun h => absurd h (by rw [HV.out]; exact HNE.out)), (fun h => absurd h (by rw [HV.out]; exact HNE.out)), HW.out⟩
end Nm
end Go.Proofs.YtemenlcigengeaaGreatDoor
namespace Go.Proofs.YtemenlcigengeaaGreatDoor
open Go.RowKit
namespace Nm
/-- a product of k evidences -/
def PrOk (k : Nat) (p : Rat) : Prop := Ln (100 * k) (100 * k) p
theorem PrOk.one : PrOk 0 1 := by
  have h := Ln.nat (n := 1) (a := 0) (by decide)
  exact h
theorem PrOk.mul {k : Nat} {p q : Rat} (h : PrOk k p) (hq : Ln 100 100 q) : PrOk (k + 1) (p * q) := (Ln.mul h hq).mono (by omega) (by omega)
theorem PrOk.fits {k : Nat} {p : Rat} (h : PrOk k p) (hk : k ≤ 10) : Fits p := Ln.fits h (by omega) (by omega)
theorem PrOk.small {k : Nat} {p : Rat} (h : PrOk k p) (hk : k ≤ 10) : wlen p.num.natAbs ≤ 6000 ∧ wlen p.den ≤ 6000 := Ln.small h (by omega) (by omega)
theorem part_ln {l : List RT} (h : aF l = 0) {r : RT} (hr : r ∈ l) : rF r.n r.d = 0 ∧ 0 ≤ rQ r.n r.d ∧ Ln 100 100 (rQ r.n r.d) ∧ Fits (rQ r.n r.d) ∧ r.n = showN (rQ r.n r.d) ∧ r.d = showD (rQ r.n r.d) := by
  obtain ⟨h1, q, hq, hrq, hn, hd, h0, hl⟩ := part_parts (aF_all h r hr)
  rw [hrq]
  exact ⟨h1, h0, hl, hq, hn, hd⟩
def y3C (t : Y3) : Array Value := #[.bool t.b, .slice t.a1 t.n1 t.c1, .slice t.a2 t.n2 t.c2]
theorem y3_nw (t : Y3) : ∀ (j : Nat) (u : Value), (y3C t)[j]? = some u → isWord u = false := by
  intro j u h
  match j with
  | 0 => cases h; rfl
  | 1 => cases h; rfl
  | 2 => cases h; rfl
  | n + 3 => simp [y3C] at h
/-- a number in a block of the call's own that may be written -/
def Acc (w : World) (b : Nat) (s : Rat) : Prop := (∃ t, Box w b (y3C t) ∧ XR w (y3V t) s) ∧ Fre w b
theorem Acc.ext {w w' : World} {b : Nat} {s : Rat} (h : Acc w b s) (hb : Below w.heap.size w w') : Acc w' b s := by
  obtain ⟨⟨t, h1, h2⟩, h3⟩ := h
  exact ⟨⟨t, h1.ext hb, h2.ext hb⟩, h3.ext h1 hb⟩
theorem below_set3 {B : Nat} {w0 w : World} {b : Nat} (h : Below B w0 w) (hle : B ≤ b) (v0 v1 v2 : Value) : Below B w0 (((w.setCell ⟨b, 0, none⟩ v0).setCell ⟨b, 1, none⟩ v1).setCell ⟨b, 2, none⟩ v2) := ((h.setCell hle _).setCell hle _).setCell hle _
/-- the world since W0: what lay below b is as it was -/
def Since (b : Nat) (W0 w : World) : Prop := Below b W0 w ∧ b ≤ w.heap.size
theorem Since.ext {b : Nat} {W0 w w' : World} (h : Since b W0 w) (hb : Below w.heap.size w w') : Since b W0 w' := ⟨h.1.trans (hb.mono h.2), Nat.le_trans h.2 hb.size⟩
theorem Since.set3 {b : Nat} {W0 w : World} {p : Nat} (h : Since b W0 w) (hle : b ≤ p) (v0 v1 v2 : Value) : Since b W0 (((w.setCell ⟨p, 0, none⟩ v0).setCell ⟨p, 1, none⟩ v1).setCell ⟨p, 2, none⟩ v2) := ⟨below_set3 h.1 hle _ _ _, by simpa using h.2⟩
theorem xtimes_is (x y z : Rat) (hz : x * y = z) (v u : Value) (w : World) (hx : XR w v x) (hy : XR w u y) (l1 : wlen x.num.natAbs ≤ 100000000) (l2 : wlen x.den ≤ 100000000) (l3 : wlen y.num.natAbs ≤ 100000000) (l4 : wlen y.den ≤ 100000000) : Calls Tryz.prog 43 #[v, u] w (XPost w z) := by
  subst hz; exact xtimes_at x y v u w hx hy l1 l2 l3 l4
end Nm
namespace Nt
open _root_.Go.Proofs.YtemenlcigengeaaGreatDoor.Nm (rF rQ showN showD Fits RT rtL rtOk AnsPost aF allF allF_ok PrOk PrOk.one PrOk.mul PrOk.fits part_ln Ln)
end Nt
end Go.Proofs.YtemenlcigengeaaGreatDoor
namespace Go.Proofs.YtemenlcigengeaaGreatDoor
open Go.RowKit Go.Lib
open Go.Sort (swp insInner insOuter)
namespace Nt
/-- a world grown from w -/
structure GrownOf (w : World) where
  v : World
  b : Below w.heap.size w v
instance (w : World) : Inhabited (GrownOf w) := ⟨⟨w, Below.refl _ _⟩⟩
theorem wp_region_below {P : Program} {id : Nat} {Q : Exit → Act → World → Prop} {a : Act} {w : World} {l : List Oper} (hm : P.follows .mixedOrders = true) (hB : Region.lexB .any l.toArray = true)
    (h : wpQuiet P l.toArray (fun w' => ∃ p : GrownOf w, w' = p.v) (fun a' => ∀ w', (∃ p : GrownOf w, w' = p.v) → Q .normal a' w') l a) : (Code.region id l.toArray true).wp P Q a w :=
  wp_region_quiet (C := fun w' => ∃ p : GrownOf w, w' = p.v) hm hB ⟨⟨w.drew, by go_grown⟩, rfl⟩ (by simpa using h)
theorem Calls.grows {P : Program} {f : FuncId} {args : Array Value} {w : World} {p : GrownOf w} {v : Value}
    (h : Calls P f args p.v fun e w' => e = .returned v ∧ Below p.v.heap.size p.v w') : Calls P f args p.v fun e w'' => e = .returned v ∧ ∃ q : GrownOf w, w'' = q.v :=
  h.mono fun _ w' ⟨he, hb⟩ => ⟨he, ⟨w', ext_trans p.b hb⟩, rfl⟩
theorem GrownOf.of {w w' : World} (h : ∃ p : GrownOf w, w' = p.v) : Below w.heap.size w w' := by
  obtain ⟨p, rfl⟩ := h
  exact p.b
theorem w_drew (w : World) : Below w.heap.size w w.drew := (Below.refl _ _).drew
/-- the sort's row: grown from the world wB but for the row's own block -/
structure SB (base : Nat) (wB W : World) (blk n : Nat) (d : Array Nat) : Prop where
  low : Below base wB W
  own : Own W blk d.toList
  lt : ∀ i, i < d.size → d[i]! < n
theorem SB.ext {base : Nat} {wB W W' : World} {blk n : Nat} {d : Array Nat} (h : SB base wB W blk n d) (hb : Below W.heap.size W W') (hle : base ≤ W.heap.size) : SB base wB W' blk n d :=
  ⟨h.low.trans (hb.mono hle), h.own.ext hb, h.lt⟩
theorem SB.cell {base : Nat} {wB W : World} {blk n : Nat} {d : Array Nat} (h : SB base wB W blk n d) {i : Nat} (hi : i < d.size) : W.cell? ⟨blk, i, none⟩ = some (.int .i64 (d[i]! : Int)) := by
  have := h.own.cell (i := i) (by simpa using hi)
  rw [this, getElem!_pos d i hi]; simp
theorem SB.swp {base : Nat} {wB W : World} {blk n : Nat} {d : Array Nat} (h : SB base wB W blk n d) (hblk : base ≤ blk) {i j : Nat} (hi : i < d.size) (hj : j < d.size) :
    SB base wB ((W.setCell ⟨blk, i, none⟩ (.int .i64 (d[j]! : Int))).setCell ⟨blk, j, none⟩ (.int .i64 (d[i]! : Int))).drew blk n (swp d i j) := by
  refine ⟨?_, ?_, ?_⟩
  · exact ((h.low.setCell (p := ⟨blk, i, none⟩) hblk _).setCell (p := ⟨blk, j, none⟩) hblk _).drew
  · have := (h.own.set (i := i) (by simpa using hi) d[j]!).set (i := j) (by simpa using hj) d[i]!
    unfold Go.Sort.swp
    refine Own.drew ?_
    simpa using this
  · intro k hk
    have hk' : k < d.size := by rw [Go.Sort.swp_size] at hk; exact hk
    rw [Go.Sort.swp_get d hi hj k]
    split
    · exact h.lt _ hi
    · split
      · exact h.lt _ hj
      · exact h.lt _ hk'
/-- what is asked of the closure: in every world grown from wB (beside the row), at numbers under n -/
def CmpB (pv : Value) (cf : Nat → Nat → Int) (base n : Nat) (wB : World) : Prop :=
  ∀ W, Below base wB W → ∀ x y : Nat, x < n → y < n → Calls Tryz.prog 83 #[.int .i64 (x : Int), .int .i64 (y : Int), pv] W fun e w' => e = .returned (.int .i64 (cf x y)) ∧ Below W.heap.size W w'
set_option maxHeartbeats 4000000 in
set_option maxRecDepth 100000 in
theorem ins_at (cf : Nat → Nat → Int) (pv : Value) (base blk cap n : Nat) (wB : World) (d : Array Nat) (w : World) (hC : CmpB pv cf base n wB) (hS : SB base wB w blk n d) (hbase : base ≤ blk) (hw : base ≤ w.heap.size) (hn : d.size ≤ 1000) :
    Calls Tryz.prog 129 #[.slice (some ⟨blk, 0, none⟩) d.size cap, .int .i64 0, .int .i64 (d.size : Int), .func (.func 83) #[] #[pv]] w fun e w' => e = .returned (.tuple #[]) ∧ SB base wB w' blk n (Go.Sort.insertionSort (ltOf cf) d 0 d.size) ∧ Below base wB w' ∧ base ≤ w'.heap.size := by
  have HC := Lib.hid hC
  have S0 := Lib.hid hS
  clear hC hS
  go_enter Tryz.func129, Tryz.ntmps129
  go_wp2
  go_loopg [8] d.size (fun g1 vi wr => ∃ (i : Nat) (dk : Array Nat), vi = .int .i64 (i : Int) ∧ 0 < i ∧ i ≤ d.size + 1 ∧ d.size + 1 - i ≤ g1 + 1 ∧ dk.size = d.size ∧ base ≤ wr.heap.size ∧ Hid (SB base wB wr blk n dk) ∧ Hid (insOuter (ltOf cf) 0 d.size i dk = insOuter (ltOf cf) 0 d.size (0 + 1) d))
  case atStart => exact ⟨1, d, by go_num, by omega, by omega, by omega, rfl, hw, S0, rfl⟩
  case round =>
    clear S0
    obtain ⟨i, dk, rfl, hai, hib, hg1, hsk, hwr, S1, HO⟩ := hrel
    by_cases hlt : i < d.size
    · have hltz : (i : Int) < (d.size : Int) := by omega
      go_wp2
      go_loopg [9] i (fun g2 vj wr2 => ∃ (j : Nat) (dj : Array Nat), vj = .int .i64 (j : Int) ∧ j ≤ i ∧ j ≤ g2 ∧ dj.size = d.size ∧ base ≤ wr2.heap.size ∧ Hid (SB base wB wr2 blk n dj) ∧ Hid (insInner (ltOf cf) 0 j dj = insInner (ltOf cf) 0 i dk))
      case atStart => exact ⟨i, dk, rfl, Nat.le_refl _, Nat.le_refl _, hsk, hwr, S1, rfl⟩
      case round =>
        clear S1
        obtain ⟨j, dj, rfl, hji, hg2, hsj, hw2, SJ, HI⟩ := hrel
        have OUT : Hid ((j ≤ 0 ∨ (ltOf cf) dj[j]! dj[j - 1]! = false) → Hid (insOuter (ltOf cf) 0 d.size (i + 1) dj = insOuter (ltOf cf) 0 d.size (0 + 1) d)) := fun hs => by
          show _ = _
          rw [← HO.out, insOuter_go _ _ _ _ _ hlt, ← HI.out, insInner_stop _ _ _ _ hs]
        by_cases hja : 0 < j
        · obtain ⟨jp, rfl⟩ : ∃ q, j = q + 1 := ⟨j - 1, by omega⟩
          obtain ⟨x, hx⟩ : ∃ x, x = dj[jp + 1]! := ⟨_, rfl⟩
          obtain ⟨y, hy⟩ : ∃ x, x = dj[jp]! := ⟨_, rfl⟩
          have HLT := Lib.hid (show x < n ∧ y < n from ⟨by rw [hx]; exact SJ.out.lt _ (by omega), by rw [hy]; exact SJ.out.lt _ (by omega)⟩)
          have hl1 : ∀ p : GrownOf wr, p.v.cell? ⟨blk, jp + 1, none⟩ = some (.int .i64 (x : Int)) := fun p => by rw [hx]; exact (SJ.out.ext p.b hw2).cell (by omega)
          have hl0 : ∀ p : GrownOf wr, p.v.cell? ⟨blk, jp, none⟩ = some (.int .i64 (y : Int)) := fun p => by rw [hy]; exact (SJ.out.ext p.b hw2).cell (by omega)
          have hc : ∀ p : GrownOf wr, Calls Tryz.prog 83 #[.int .i64 (x : Int), .int .i64 (y : Int), pv] p.v fun e w' => e = .returned (.int .i64 (cf x y)) ∧ Below p.v.heap.size p.v w' := fun p => HC.out _ (SJ.out.ext p.b hw2).low x y HLT.out.1 HLT.out.2
          have ra : IntKind.i64.wrap (jp : Int) = (jp : Int) := by rw [IntKind.wrap_i64]; omega
          have e1 : ((jp : Int) + 1).toNat = jp + 1 := by omega
          have e0 : (jp : Int).toNat = jp := by omega
          have p1 : (0 : Int) ≤ (jp : Int) + 1 := by omega
          have p0 : (0 : Int) ≤ (jp : Int) := by omega
          have b1 : (jp : Int) + 1 < (d.size : Int) := by omega
          have b0 : (jp : Int) < (d.size : Int) := by omega
          have h00 : (0 : Int) < (jp : Int) + 1 := by omega
          have hj1 : ((jp + 1 : Nat) : Int) = (jp : Int) + 1 := by omega
          rw [hj1]
          have HX := Lib.hid hx
          have HY := Lib.hid hy
          clear hx hy
          cases hlv : (ltOf cf) dj[jp + 1]! dj[jp]! with
          | true =>
            have hv : decide (cf x y < 0) = true := by rw [HX.out, HY.out]; exact hlv
            have hv' : cf x y < 0 := of_decide_eq_true hv
            have hlv' : (ltOf cf) dj[jp + 1]! dj[jp + 1 - 1]! = true := hlv
            have HI' : Hid (insInner (ltOf cf) 0 jp (swp dj (jp + 1) jp) = insInner (ltOf cf) 0 i dk) := Lib.hid (by rw [← HI.out, insInner_go (ltOf cf) 0 (jp + 1) dj (by omega) hlv']; rfl)
            go_wp2_with fail
            refine Nt.wp_region_below (by kernel_rfl) (by kernel_rfl) ?_
            repeat (quiet_step (first | (go_at_call 83; refine Calls.grows (hc _))))
            refine wpQuiet_nil ?_
            intro wq hw'
            have hbq := Nt.GrownOf.of hw'
            clear hw'
            have hwq : base ≤ wq.heap.size := Nat.le_trans hw2 hbq.size
            have S2 := SJ.out.ext hbq hw2
            have S3 := Lib.hid (S2.swp hbase (i := jp + 1) (j := jp) (by omega) (by omega))
            have hk1 := S2.cell (i := jp + 1) (by omega)
            have hk0 := S2.cell (i := jp) (by omega)
            rw [← HX.out] at hk1 S3
            rw [← HY.out] at hk0 S3
            have hf1 : wq.frozen? ⟨blk, jp + 1, none⟩ = false := S2.own.frozen _
            have hf0 : wq.frozen? ⟨blk, jp, none⟩ = false := S2.own.frozen _
            have hne : (⟨blk, jp + 1, none⟩ : Addr) ≠ ⟨blk, jp, none⟩ := by intro h; simp at h
            clear S2 hl1 hl0 hc SJ hbq hwr
            go_wp2_with fail
            go_big_region
            clear hk1 hk0 hf1 hf0 hne
            have hs9 : (swp dj (jp + 1) jp).size = d.size := by rw [Go.Sort.swp_size]; exact hsj
            generalize ((wq.setCell ⟨blk, jp + 1, none⟩ (.int .i64 (y : Int))).setCell ⟨blk, jp, none⟩ (.int .i64 (x : Int))).drew = w3 at S3 ⊢
            have hw9 : base ≤ w3.heap.size := Nat.le_trans hbase (Nat.le_of_lt S3.out.own.lt)
            go_wp2
            go_roundg jp
            case measure => omega
            case rel => exact ⟨jp, swp dj (jp + 1) jp, rfl, by omega, Nat.le_refl _, hs9, hw9, S3, HI'⟩
          | false =>
            have hv : decide (cf x y < 0) = false := by rw [HX.out, HY.out]; exact hlv
            have hv' : ¬ cf x y < 0 := of_decide_eq_false hv
            go_wp2_with fail
            refine Nt.wp_region_below (by kernel_rfl) (by kernel_rfl) ?_
            repeat (quiet_step (first | (go_at_call 83; refine Calls.grows (hc _))))
            refine wpQuiet_nil ?_
            intro wq hw'
            have hbq := Nt.GrownOf.of hw'
            clear hw'
            have hwq : base ≤ wq.heap.size := Nat.le_trans hw2 hbq.size
            have S2 := Lib.hid (SJ.out.ext hbq hw2)
            clear hl1 hl0 hc SJ hbq hwr
            go_wp2
            go_roundg (d.size - (i + 1))
            case measure => omega
            case rel => exact ⟨i + 1, dj, by go_num, by omega, by omega, by omega, hsj, hwq, S2, OUT.out (Or.inr hlv)⟩
        · obtain rfl : j = 0 := by omega
          have hjz : decide (((0 : Nat) : Int) > 0) = false := rfl
          have S2 := Lib.hid (SJ.out.ext (w_drew wr) hw2)
          clear SJ
          go_wp2_with fail
          go_big_region
          have hw9 : base ≤ wr.drew.heap.size := hw2
          generalize wr.drew = w3 at S2 hw9 ⊢
          go_wp2
          go_roundg (d.size - (i + 1))
          case measure => omega
          case rel => exact ⟨i + 1, dj, by go_num, by omega, by omega, by omega, hsj, hw9, S2, OUT.out (Or.inl (Nat.le_refl _))⟩
    · have hltz : ¬ (i : Int) < (d.size : Int) := by omega
      go_wp2
      go_end0
      exact ⟨rfl, by unfold Go.Sort.insertionSort; rw [← HO.out, insOuter_stop _ _ _ _ _ hlt]; exact S1.out, S1.out.low, hwr⟩
def SrtPost (base blk n : Nat) (wB : World) (cf : Nat → Nat → Int) (d : Array Nat) (e : Ending) (w' : World) : Prop :=
  e = .returned (.tuple #[]) ∧ SB base wB w' blk n (Go.Sort.insertionSort (ltOf cf) d 0 d.size) ∧ base ≤ w'.heap.size
set_option maxHeartbeats 2000000 in
theorem stable_at (cf : Nat → Nat → Int) (pv : Value) (base blk cap n : Nat) (wB : World) (d : Array Nat) (w : World) (hC : CmpB pv cf base n wB) (hS : SB base wB w blk n d) (hbase : base ≤ blk) (hw : base ≤ w.heap.size) (hn : d.size < 20) :
    Calls Tryz.prog 109 #[.slice (some ⟨blk, 0, none⟩) d.size cap, .int .i64 (d.size : Int), .func (.func 83) #[] #[pv]] w (SrtPost base blk n wB cf d) := by
  have HC := Lib.hid hC
  have S0 := Lib.hid hS
  clear hC hS
  have h20 : ¬ (20 : Int) ≤ (d.size : Int) := by omega
  have h21 : ¬ (20 : Int) < (d.size : Int) := by omega
  go_enter Tryz.func109, Tryz.ntmps109
  go_wp2_with fail
  go_loopw [7, 8] (fun x y wr => x = .int .i64 0 ∧ y = .int .i64 20 ∧ wr = w) (fun _ _ _ => 0)
  case atStart => exact ⟨rfl, rfl, rfl⟩
  case round =>
    obtain ⟨rfl, rfl, rfl⟩ := hrel
    go_wp2_with fail
    refine (ins_at cf pv base blk cap n wB d _ HC.out S0.out hbase hw (by omega)).mono ?_
    rintro e w1 ⟨rfl, hs1, _, hw1⟩
    have S1 := Lib.hid hs1
    clear hs1 S0
    go_wp2_with fail
    go_loopw [6] (fun x wr => x = .int .i64 20 ∧ wr = w1) (fun _ _ => 0)
    case atStart => exact ⟨rfl, rfl⟩
    case round =>
      obtain ⟨rfl, rfl⟩ := hrel
      go_wp2
      go_end0
      exact ⟨rfl, S1.out, hw1⟩
theorem sortInts_at (cf : Nat → Nat → Int) (pv : Value) (base blk cap n : Nat) (wB : World) (d : Array Nat) (w : World) (hC : CmpB pv cf base n wB) (hS : SB base wB w blk n d) (hbase : base ≤ blk) (hw : base ≤ w.heap.size) (hn : d.size < 20) :
    Calls Tryz.prog 82 #[.slice (some ⟨blk, 0, none⟩) d.size cap, .func (.func 83) #[] #[pv]] w (SrtPost base blk n wB cf d) := by
  have HC := Lib.hid hC
  have S0 := Lib.hid hS
  clear hC hS
  go_enter Tryz.func82, Tryz.ntmps82
  go_wp2_with fail
  refine (stable_at cf pv base blk cap n wB d _ HC.out S0.out hbase hw hn).mono ?_
  rintro e w1 ⟨rfl, hs1, hw1⟩
  have S1 := Lib.hid hs1
  go_wp2
  go_end0
  exact ⟨rfl, S1.out, hw1⟩
end Nt
end Go.Proofs.YtemenlcigengeaaGreatDoor
