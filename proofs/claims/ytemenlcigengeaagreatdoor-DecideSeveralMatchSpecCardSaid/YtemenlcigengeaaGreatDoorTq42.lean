/- What a right miss is; a test is decided just where the reference says so. Several evidences: what is right, in plain words. Several new blocks at once, each of which may be written. No program stands in it. Decimal of package value. Printed by gen_dec.py. readPart, checkMany of package decide; isEvidence, howMany, checkAll, checkMany of the reference. Printed by gen_sev.py. -/
import Derived.Test.YtemenlcigengeaaGreatDoorTq36
import Derived.Test.YtemenlcigengeaaGreatDoorTq41
import Derived.Test.YtemenlcigengeaaGreatDoorProg
import Derived.Test.YtemenlcigengeaaGreatDoorTq00
import Derived.Test.YtemenlcigengeaaGreatDoorTq03
import Derived.Test.YtemenlcigengeaaGreatDoorTq05
import Derived.Test.YtemenlcigengeaaGreatDoorTq16
import Derived.Test.YtemenlcigengeaaGreatDoorTq06
import Derived.Test.YtemenlcigengeaaGreatDoorTq07
import Derived.Test.YtemenlcigengeaaGreatDoorTq08
import Derived.Test.YtemenlcigengeaaGreatDoorTq17
import Derived.Test.YtemenlcigengeaaGreatDoorTq18
import Derived.Test.YtemenlcigengeaaGreatDoorTq19
import Derived.Test.YtemenlcigengeaaGreatDoorTq20
import Derived.Test.YtemenlcigengeaaGreatDoorTq21
import Derived.Test.YtemenlcigengeaaGreatDoorTq32
import Derived.Test.YtemenlcigengeaaGreatDoorTq31
import Derived.Test.YtemenlcigengeaaGreatDoorTq23
import Derived.Test.YtemenlcigengeaaGreatDoorTq24
import Derived.Test.YtemenlcigengeaaGreatDoorTq25
import Derived.Test.YtemenlcigengeaaGreatDoorTq26
import Derived.Test.YtemenlcigengeaaGreatDoorTq27
import Derived.Test.YtemenlcigengeaaGreatDoorTq28
import Derived.Test.YtemenlcigengeaaGreatDoorTq29
import Derived.Test.YtemenlcigengeaaGreatDoorShelf
namespace Go.Proofs.YtemenlcigengeaaGreatDoor
open Go.RowKit
namespace lawLine
open _root_.Go.Proofs.YtemenlcigengeaaGreatDoor.Nm _root_.Go.Proofs.YtemenlcigengeaaGreatDoor.Nt
theorem miss_parts {n m : ByteArray} (h : missF n m = 0) : ∃ q, Fits q ∧ rQ n m = q ∧ n = showN q ∧ m = showD q ∧ 0 < q ∧ q < 1 ∧ Ln 100 100 q := by
  have hr := (missF_ok h).1
  obtain ⟨q, hq, hrq, hn, hm⟩ := show_parts hr
  unfold missF at h
  rw [if_neg (fun h' => h' hr)] at h
  by_cases ho : okM (rQ n m) = false
  · rw [if_pos ho] at h; cases h
  · rw [if_neg ho] at h
    have ho' : okM q = true := by rw [← hrq]; simpa using ho
    rw [okM_is] at ho'
    simp only [Bool.and_eq_true, decide_eq_true_eq] at ho'
    by_cases hl : longB n m = true
    · rw [if_pos hl] at h; cases h
    · refine ⟨q, hq, hrq, hn, hm, ho'.1, ho'.2, ?_⟩
      have hl' : longB n m = false := by simpa using hl
      unfold longB at hl'
      simp only [Bool.or_eq_false_iff, decide_eq_false_iff_not] at hl'
      obtain ⟨_, h2, h3, h4, h5, h6, h7, _⟩ := rQ_facts hr
      have l1 : (cutS n).data.toList.length = (cutS n).size := Array.length_toList
      have l2 : m.data.toList.length = m.size := Array.length_toList
      have e1 := decv_lt (whole_digs h4)
      have e2 := decv_lt (whole_digs h5)
      rw [← hrq]
      constructor
      · rw [h2, sgn_natAbs]
        exact Nat.le_trans (Nat.le_of_lt e1) (ten_le (by omega))
      · rw [h3]
        exact Nat.le_trans (Nat.le_of_lt e2) (ten_le (by omega))
end lawLine
namespace Nt
open _root_.Go.Proofs.YtemenlcigengeaaGreatDoor.Nm (Fits)
end Nt
end Go.Proofs.YtemenlcigengeaaGreatDoor
namespace Go.Proofs.YtemenlcigengeaaGreatDoor
open Go.RowKit
namespace Nm
/-- fault of an evidence, or a weight -/
def partF (n d : ByteArray) : Int := if rF n d ≠ 0 then rF n d else if (rQ n d).num < 0 then 1 else if longB n d = true then 2 else 0
/-- fault of a number of evidences -/
def mF (k : Nat) : Int := if k = 0 then 9 else if 10 < k then 2 else 0
def aF : List RT → Int
  | [] => 0
  | r :: t => if partF r.n r.d ≠ 0 then partF r.n r.d else aF t
def allF (l : List RT) : Int := if mF l.length ≠ 0 then mF l.length else aF l
theorem aF_step {l : List RT} {k : Nat} {r : RT} (h : l[k]? = some r) : aF (l.drop k) = if partF r.n r.d ≠ 0 then partF r.n r.d else aF (l.drop (k + 1)) := by
  obtain ⟨hk, rfl⟩ := List.getElem?_eq_some_iff.1 h
  rw [List.drop_eq_getElem_cons hk]; rfl
theorem mF_ok {k : Nat} (h : mF k = 0) : 1 ≤ k ∧ k ≤ 10 := by
  unfold mF at h
  by_cases h1 : k = 0
  · rw [if_pos h1] at h; cases h
  · rw [if_neg h1] at h
    by_cases h2 : 10 < k
    · rw [if_pos h2] at h; cases h
    · omega
theorem allF_ok {l : List RT} (h : allF l = 0) : (1 ≤ l.length ∧ l.length ≤ 10) ∧ aF l = 0 := by
  unfold allF at h
  by_cases h1 : mF l.length = 0
  · rw [if_neg (fun h' => h' h1)] at h; exact ⟨mF_ok h1, h⟩
  · rw [if_pos h1] at h; exact absurd h h1
theorem aF_all : ∀ {gs : List RT}, aF gs = 0 → ∀ r ∈ gs, partF r.n r.d = 0
  | [], _, r, hr => by cases hr
  | x :: t, h, r, hr => by
    unfold aF at h
    by_cases hx : partF x.n x.d = 0
    · rw [if_neg (fun h' => h' hx)] at h
      rcases List.mem_cons.1 hr with rfl | hr
      · exact hx
      · exact aF_all h r hr
    · rw [if_pos hx] at h; exact absurd h hx
theorem rat_neg {q : Rat} : q.num < 0 ↔ q < 0 := by
  rw [Rat.lt_iff]
  simp
theorem part_parts {n m : ByteArray} (h : partF n m = 0) : rF n m = 0 ∧ ∃ q, Fits q ∧ rQ n m = q ∧ n = showN q ∧ m = showD q ∧ 0 ≤ q ∧ Ln 100 100 q := by
  unfold partF at h
  by_cases hr : rF n m = 0
  · rw [if_neg (fun h' => h' hr)] at h
    refine ⟨hr, ?_⟩
    obtain ⟨q, hq, hrq, hn, hm⟩ := Nt.show_parts hr
    by_cases ho : (rQ n m).num < 0
    · rw [if_pos ho] at h; cases h
    · rw [if_neg ho] at h
      by_cases hl : longB n m = true
      · rw [if_pos hl] at h; cases h
      · refine ⟨q, hq, hrq, hn, hm, Rat.not_lt.1 (fun h' => ho (by rw [hrq]; exact rat_neg.2 h')), ?_⟩
        have hl' : longB n m = false := by simpa using hl
        unfold longB at hl'
        simp only [Bool.or_eq_false_iff, decide_eq_false_iff_not] at hl'
        obtain ⟨_, h2, h3, h4, h5, h6, h7, _⟩ := rQ_facts hr
        have l1 : (cutS n).data.toList.length = (cutS n).size := Array.length_toList
        have l2 : m.data.toList.length = m.size := Array.length_toList
        have e1 := decv_lt (Nt.whole_digs h4)
        have e2 := decv_lt (Nt.whole_digs h5)
        rw [← hrq]
        constructor
        · rw [h2, sgn_natAbs]
          exact Nat.le_trans (Nat.le_of_lt e1) (ten_le (by omega))
        · rw [h3]
          exact Nat.le_trans (Nat.le_of_lt e2) (ten_le (by omega))
  · rw [if_pos hr] at h; exact absurd h hr
theorem Ln.small {a b : Nat} {q : Rat} (h : Ln a b q) (ha : a ≤ 5000) (hb : b ≤ 5000) : wlen q.num.natAbs ≤ 6000 ∧ wlen q.den ≤ 6000 := by
  have k1 : 10 ^ a < 10 ^ (a + 1) := Nat.pow_lt_pow_right (by decide) (Nat.lt_succ_self a)
  have k2 : 10 ^ b < 10 ^ (b + 1) := Nat.pow_lt_pow_right (by decide) (Nat.lt_succ_self b)
  have h1 := wlen_dec (Nat.lt_of_le_of_lt h.1 k1)
  have h2 := wlen_dec (Nat.lt_of_le_of_lt h.2 k2)
  omega
theorem res3c {w0 w : World} {b : Nat} {x0 x1 x2 : Value} (u0 u1 u2 : Value) (hC : Box w b #[x0, x1, x2]) (hb : Below w0.heap.size w0 w) (hle : w0.heap.size ≤ b) :
    Below w0.heap.size w0 (((w.setCell ⟨b, 0, none⟩ u0).setCell ⟨b, 1, none⟩ u1).setCell ⟨b, 2, none⟩ u2) ∧ (((w.setCell ⟨b, 0, none⟩ u0).setCell ⟨b, 1, none⟩ u1).setCell ⟨b, 2, none⟩ u2).cell? ⟨b, 0, none⟩ = some u0 ∧ (((w.setCell ⟨b, 0, none⟩ u0).setCell ⟨b, 1, none⟩ u1).setCell ⟨b, 2, none⟩ u2).cell? ⟨b, 1, none⟩ = some u1 ∧ (((w.setCell ⟨b, 0, none⟩ u0).setCell ⟨b, 1, none⟩ u1).setCell ⟨b, 2, none⟩ u2).cell? ⟨b, 2, none⟩ = some u2 := by
  have hq := three_set u0 u1 u2 (hC.2 0) (hC.2 1) (hC.2 2)
  exact ⟨((hb.setCell hle _).setCell hle _).setCell hle _, hq.1, hq.2.1, hq.2.2⟩
def XIf3 (w : World) (f : Int) (v : Value) (q : Rat) : Prop := f = 0 → XR w v q
theorem XIf3.ext {w w' : World} {f : Int} {v : Value} {q : Rat} (h : XIf3 w f v q) (hb : Below w.heap.size w w') : XIf3 w' f v q := fun h0 => (h h0).ext hb
def PartPost (w : World) (n d : ByteArray) (e : Ending) (w' : World) : Prop := ∃ b a1 n1 c1 a2 n2 c2, e = .returned (.tuple #[xv b a1 n1 c1 a2 n2 c2, .int .i64 (partF n d)]) ∧ XIf3 w' (partF n d) (xv b a1 n1 c1 a2 n2 c2) (rQ n d) ∧ Below w.heap.size w w'
end Nm
end Go.Proofs.YtemenlcigengeaaGreatDoor
namespace Go.Proofs.YtemenlcigengeaaGreatDoor
open Go.RowKit
theorem wp_box3f {P : Program} {c : Code} {Q : Exit → Act → World → Prop} {a : Act} {w : World} {A B C : Array Value} {t u v : TypeId}
    (h : ∀ W, W.heap.size = w.heap.size + 3 → Below w.heap.size w W → Box W w.heap.size A → Fre W w.heap.size → Box W (w.heap.size + 1) B → Fre W (w.heap.size + 1) → Box W (w.heap.size + 2) C → Fre W (w.heap.size + 2) → c.wp P Q a W) : c.wp P Q a (((w.alloc (.cells A t)).alloc (.cells B u)).alloc (.cells C v)) := by
  have b1 := Box.new w A t
  have f1 := Fre.new w A t
  have hb : Below (w.alloc (.cells A t)).heap.size (w.alloc (.cells A t)) ((w.alloc (.cells A t)).alloc (.cells B u)) := ext_alloc _ _
  have hb2 : Below ((w.alloc (.cells A t)).alloc (.cells B u)).heap.size ((w.alloc (.cells A t)).alloc (.cells B u)) (((w.alloc (.cells A t)).alloc (.cells B u)).alloc (.cells C v)) := ext_alloc _ _
  have b2 : Box ((w.alloc (.cells A t)).alloc (.cells B u)) (w.heap.size + 1) B := by
    have := Box.new (w.alloc (.cells A t)) B u
    simpa using this
  have f2 : Fre ((w.alloc (.cells A t)).alloc (.cells B u)) (w.heap.size + 1) := by
    have := Fre.new (w.alloc (.cells A t)) B u
    simpa using this
  refine h _ (by simp) (by go_grown) ((b1.ext hb).ext hb2) ((f1.ext b1 hb).ext (b1.ext hb) hb2) (b2.ext hb2) (f2.ext b2 hb2) ?_ ?_
  · have := Box.new ((w.alloc (.cells A t)).alloc (.cells B u)) C v
    simpa using this
  · have := Fre.new ((w.alloc (.cells A t)).alloc (.cells B u)) C v
    simpa using this
end Go.Proofs.YtemenlcigengeaaGreatDoor
namespace Go.Proofs.YtemenlcigengeaaGreatDoor
open Go.RowKit
namespace Nm
def TP.num (n : Nat) : TP := ⟨fun w v => N w v n, fun _ _ _ hb h => h.ext hb⟩
def XIf (w : World) (n d : ByteArray) (v : Value) : Prop := rF n d = 0 → XR w v (rQ n d)
theorem XIf.ext {w w' : World} {n d : ByteArray} {v : Value} (h : XIf w n d v) (hb : Below w.heap.size w w') : XIf w' n d v := fun h0 => (h h0).ext hb
theorem tail_none {P : Program} {ops : Array Oper} {Q : Exit → Act → World → Prop} {a : Act} {w : World} (h : Q .normal a w) : wpList P ops Q [] a w := h
end Nm
end Go.Proofs.YtemenlcigengeaaGreatDoor
namespace Go.Proofs.YtemenlcigengeaaGreatDoor
open Go.RowKit
namespace Nm
set_option maxRecDepth 100000 in
set_option maxHeartbeats 8000000 in
theorem readPart_at (n d : ByteArray) (hn : n.size ≤ maxLen) (hd : d.size ≤ maxLen) (w : World) : Calls Tryz.prog 41 #[.agg #[.string n, .string d]] w (PartPost w n d) := by
  go_enter Tryz.func41, Tryz.ntmps41
  go_upto_region 1 with (fail)
  refine wp_box2r fun w1' hsz hbW hA0 hC hF => ?_
  clear hsz
  have HB_r := Lib.hid hA0
  have HB_o := Lib.hid hC
  have HF_o := Lib.hid hF
  have HW := Lib.hid hbW
  clear hbW hA0 hC hF
  have c_r_0 : w1'.cell? ⟨w.heap.size, 0, none⟩ = some (.string n) := HB_r.out.2 0
  have c_r_1 : w1'.cell? ⟨w.heap.size, 1, none⟩ = some (.string d) := HB_r.out.2 1
  go_wp2_with fail
  refine (checkRatio_at n d hn hd w1').mono ?_
  rintro e w2' ⟨rfl, hbz⟩
  replace HB_r := Lib.hid (HB_r.out.ext hbz)
  replace HF_o := Lib.hid (HF_o.out.ext HB_o.out hbz)
  replace HB_o := Lib.hid (HB_o.out.ext hbz)
  replace HW := Lib.hid (ext_trans HW.out hbz)
  clear c_r_0 c_r_1
  clear hbz
  by_cases hz : rF n d = 0
  · have hne : (rF n d != 0) = false := by simp [hz]
    have HZ := Lib.hid hz
    clear hz
    have c_r_0 : w2'.cell? ⟨w.heap.size, 0, none⟩ = some (.string n) := HB_r.out.2 0
    have c_r_1 : w2'.cell? ⟨w.heap.size, 1, none⟩ = some (.string d) := HB_r.out.2 1
    go_wp2_with fail
    refine (xratOfP_at n d hn hd HZ.out w2').mono ?_
    rintro e w3' ⟨v, rfl, hx, hbz⟩
    obtain ⟨q1, k1, q2, k2, rfl, hn1, hn2⟩ := hx.open_
    clear hx
    obtain ⟨b, hb9⟩ : ∃ b, decide ((rQ n d).num < 0) = b := ⟨_, rfl⟩
    rw [hb9]
    generalize (digs (rQ n d).num.natAbs).length = n1 at *
    generalize (digs (rQ n d).den).length = n2 at *
    have HN1 := Lib.hid hn1
    have HN2 := Lib.hid hn2
    have HB9 := Lib.hid hb9
    clear hn1 hn2 hb9
    replace HB_r := Lib.hid (HB_r.out.ext hbz)
    replace HF_o := Lib.hid (HF_o.out.ext HB_o.out hbz)
    replace HB_o := Lib.hid (HB_o.out.ext hbz)
    replace HW := Lib.hid (ext_trans HW.out hbz)
    clear c_r_0 c_r_1
    clear hbz
    go_upto_region 5 with (fail)
    refine wp_box1 fun w4' hsz hbz hC => ?_
    clear hsz
    have lt_r_x : w.heap.size < w3'.heap.size := HB_r.out.1
    have lt_o_x : (w.heap.size + 1) < w3'.heap.size := HB_o.out.1
    have le_x : w.heap.size ≤ w3'.heap.size := HW.out.size
    replace HB_r := Lib.hid (HB_r.out.ext hbz)
    replace HF_o := Lib.hid (HF_o.out.ext HB_o.out hbz)
    replace HB_o := Lib.hid (HB_o.out.ext hbz)
    replace HN1 := Lib.hid (HN1.out.ext hbz)
    replace HN2 := Lib.hid (HN2.out.ext hbz)
    replace HW := Lib.hid (ext_trans HW.out hbz)
    clear hbz
    have HB_x := Lib.hid hC
    clear hC
    generalize w3'.heap.size = b_x at *
    cases b with
    | true =>
      have HP : Hid (partF n d = 1) := Lib.hid (by unfold partF; rw [if_neg (fun h => h HZ.out), if_pos (of_decide_eq_true HB9.out)])
      have HNE : Hid ((1 : Int) ≠ 0) := Lib.hid (by decide)
      have c_x_0 : w4'.cell? ⟨b_x, 0, none⟩ = some (.bool true) := HB_x.out.2 0
      have c_x_1 : w4'.cell? ⟨b_x, 1, none⟩ = some (.slice q1 n1 k1) := HB_x.out.2 1
      have c_x_2 : w4'.cell? ⟨b_x, 2, none⟩ = some (.slice q2 n2 k2) := HB_x.out.2 2
      have c_o_0 : w4'.cell? ⟨(w.heap.size + 1), 0, none⟩ = some (.bool false) := HB_o.out.2 0
      have c_o_1 : w4'.cell? ⟨(w.heap.size + 1), 1, none⟩ = some (.slice none 0 0) := HB_o.out.2 1
      have c_o_2 : w4'.cell? ⟨(w.heap.size + 1), 2, none⟩ = some (.slice none 0 0) := HB_o.out.2 2
      have f_o_0 := HF_o.out 0
      have f_o_1 := HF_o.out 1
      have f_o_2 := HF_o.out 2
      have HR := Lib.hid (res3c (.bool false) (.slice none 0 0) (.slice none 0 0) HB_o.out HW.out (show w.heap.size ≤ (w.heap.size + 1) by omega))
      obtain ⟨hbF, z0, z1, z2⟩ := id HR.out
      clear hbF
      go_wp2
      exact bodyPost_ret (v := .tuple #[.agg #[.bool false, .slice none 0 0, .slice none 0 0], .int .i64 (1)]) (by simp [results, Tryz.results41, go_sem, z0, z1, z2]) rfl ⟨_, _, _, _, _, _, _, by rw [HP.out], (fun h => absurd h (by rw [HP.out]; exact HNE.out)), HR.out.1⟩
    | false =>
      have HP0 : Hid (partF n d = if longB n d = true then 2 else 0) := Lib.hid (by unfold partF; rw [if_neg (fun h => h HZ.out), if_neg (of_decide_eq_false HB9.out)])
      have c_r_0 : w4'.cell? ⟨w.heap.size, 0, none⟩ = some (.string n) := HB_r.out.2 0
      have c_r_1 : w4'.cell? ⟨w.heap.size, 1, none⟩ = some (.string d) := HB_r.out.2 1
      have c_x_0 : w4'.cell? ⟨b_x, 0, none⟩ = some (.bool false) := HB_x.out.2 0
      have c_x_1 : w4'.cell? ⟨b_x, 1, none⟩ = some (.slice q1 n1 k1) := HB_x.out.2 1
      have c_x_2 : w4'.cell? ⟨b_x, 2, none⟩ = some (.slice q2 n2 k2) := HB_x.out.2 2
      go_wp2_with fail
      refine (long_at n d hn hd w4').mono ?_
      rintro e w5' ⟨rfl, hbz⟩
      replace HB_r := Lib.hid (HB_r.out.ext hbz)
      replace HF_o := Lib.hid (HF_o.out.ext HB_o.out hbz)
      replace HB_o := Lib.hid (HB_o.out.ext hbz)
      replace HB_x := Lib.hid (HB_x.out.ext hbz)
      replace HN1 := Lib.hid (HN1.out.ext hbz)
      replace HN2 := Lib.hid (HN2.out.ext hbz)
      replace HW := Lib.hid (ext_trans HW.out hbz)
      clear c_r_0 c_r_1 c_x_0 c_x_1 c_x_2
      clear hbz
      by_cases hl : longB n d = true
      · have HP : Hid (partF n d = 2) := Lib.hid (by rw [HP0.out, if_pos hl])
        have HNE : Hid ((2 : Int) ≠ 0) := Lib.hid (by decide)
        rw [hl]
        clear hl
        have c_o_0 : w5'.cell? ⟨(w.heap.size + 1), 0, none⟩ = some (.bool false) := HB_o.out.2 0
        have c_o_1 : w5'.cell? ⟨(w.heap.size + 1), 1, none⟩ = some (.slice none 0 0) := HB_o.out.2 1
        have c_o_2 : w5'.cell? ⟨(w.heap.size + 1), 2, none⟩ = some (.slice none 0 0) := HB_o.out.2 2
        have f_o_0 := HF_o.out 0
        have f_o_1 := HF_o.out 1
        have f_o_2 := HF_o.out 2
        have HR := Lib.hid (res3c (.bool false) (.slice none 0 0) (.slice none 0 0) HB_o.out HW.out (show w.heap.size ≤ (w.heap.size + 1) by omega))
        obtain ⟨hbF, z0, z1, z2⟩ := id HR.out
        clear hbF
        go_wp2
        exact bodyPost_ret (v := .tuple #[.agg #[.bool false, .slice none 0 0, .slice none 0 0], .int .i64 (2)]) (by simp [results, Tryz.results41, go_sem, z0, z1, z2]) rfl ⟨_, _, _, _, _, _, _, by rw [HP.out], (fun h => absurd h (by rw [HP.out]; exact HNE.out)), HR.out.1⟩
      · have HP : Hid (partF n d = 0) := Lib.hid (by rw [HP0.out, if_neg hl])
        have hl' : longB n d = false := by simpa using hl
        rw [hl']
        clear hl hl'
        have c_x_0 : w5'.cell? ⟨b_x, 0, none⟩ = some (.bool false) := HB_x.out.2 0
        have c_x_1 : w5'.cell? ⟨b_x, 1, none⟩ = some (.slice q1 n1 k1) := HB_x.out.2 1
        have c_x_2 : w5'.cell? ⟨b_x, 2, none⟩ = some (.slice q2 n2 k2) := HB_x.out.2 2
        have c_o_0 : w5'.cell? ⟨(w.heap.size + 1), 0, none⟩ = some (.bool false) := HB_o.out.2 0
        have c_o_1 : w5'.cell? ⟨(w.heap.size + 1), 1, none⟩ = some (.slice none 0 0) := HB_o.out.2 1
        have c_o_2 : w5'.cell? ⟨(w.heap.size + 1), 2, none⟩ = some (.slice none 0 0) := HB_o.out.2 2
        have f_o_0 := HF_o.out 0
        have f_o_1 := HF_o.out 1
        have f_o_2 := HF_o.out 2
        have HR := Lib.hid (res3 false HB_o.out HN1.out HN2.out HW.out (show w.heap.size ≤ (w.heap.size + 1) by omega))
        obtain ⟨_, _, _, z0, z1, z2⟩ := id HR.out
        go_wp2
        exact bodyPost_ret (v := .tuple #[.agg #[.bool false, .slice q1 n1 k1, .slice q2 n2 k2], .int .i64 0]) (by simp [results, Tryz.results41, go_sem, z0, z1, z2]) rfl ⟨_, _, _, _, _, _, _, by rw [HP.out], (fun _ => ⟨_, _, by rw [HB9.out], HR.out.1, HR.out.2.1⟩), HR.out.2.2.1⟩
  · have HP : Hid (partF n d = rF n d) := Lib.hid (by unfold partF; rw [if_pos hz])
    have HNE : Hid (rF n d ≠ 0) := Lib.hid hz
    have hne : (rF n d != 0) = true := by simp [hz]
    clear hz
    have c_o_0 : w2'.cell? ⟨(w.heap.size + 1), 0, none⟩ = some (.bool false) := HB_o.out.2 0
    have c_o_1 : w2'.cell? ⟨(w.heap.size + 1), 1, none⟩ = some (.slice none 0 0) := HB_o.out.2 1
    have c_o_2 : w2'.cell? ⟨(w.heap.size + 1), 2, none⟩ = some (.slice none 0 0) := HB_o.out.2 2
    have f_o_0 := HF_o.out 0
    have f_o_1 := HF_o.out 1
    have f_o_2 := HF_o.out 2
    have HR := Lib.hid (res3c (.bool false) (.slice none 0 0) (.slice none 0 0) HB_o.out HW.out (show w.heap.size ≤ (w.heap.size + 1) by omega))
    obtain ⟨hbF, z0, z1, z2⟩ := id HR.out
    clear hbF
    go_wp2
    exact bodyPost_ret (v := .tuple #[.agg #[.bool false, .slice none 0 0, .slice none 0 0], .int .i64 (rF n d)]) (by simp [results, Tryz.results41, go_sem, z0, z1, z2]) rfl ⟨_, _, _, _, _, _, _, by rw [HP.out], (fun h => absurd h (by rw [HP.out]; exact HNE.out)), HR.out.1⟩
set_option maxHeartbeats 4000000 in
theorem checkManyP_at (n : Nat) (a : Option Addr) (c : Nat) (w : World) : Calls Tryz.prog 39 #[.slice a n c] w (fun e w' => e = .returned (.int .i64 (mF n)) ∧ w = w') := by
  go_enter Tryz.func39, Tryz.ntmps39
  by_cases h1 : n = 0
  · have HP : Hid (mF n = 9) := Lib.hid (by unfold mF; rw [if_pos h1])
    have h2 : ((n : Int) == 0) = true := by rw [h1]; rfl
    clear h1
    go_wp2
    exact bodyPost_ret (v := .int .i64 9) (by simp [results, Tryz.results39, go_sem]) rfl ⟨by rw [HP.out], rfl⟩
  · have h2 : ((n : Int) == 0) = false := beq_eq_false_iff_ne.2 (by omega)
    by_cases h3 : 10 < n
    · have HP : Hid (mF n = 2) := Lib.hid (by unfold mF; rw [if_neg h1, if_pos h3])
      clear h1
      go_wp2
      exact bodyPost_ret (v := .int .i64 2) (by simp [results, Tryz.results39, go_sem]) rfl ⟨by rw [HP.out], rfl⟩
    · have HP : Hid (mF n = 0) := Lib.hid (by unfold mF; rw [if_neg h1, if_neg h3])
      clear h1
      go_wp2
      exact bodyPost_ret (v := .int .i64 0) (by simp [results, Tryz.results39, go_sem]) rfl ⟨by rw [HP.out], rfl⟩
end Nm
namespace Nt
open _root_.Go.Proofs.YtemenlcigengeaaGreatDoor.Nm (rF rQ showN showD Fits partF FPost RT rtL rtOk longB mF mF_ok aF aF_step allF missF tail_none)
end Nt
end Go.Proofs.YtemenlcigengeaaGreatDoor
