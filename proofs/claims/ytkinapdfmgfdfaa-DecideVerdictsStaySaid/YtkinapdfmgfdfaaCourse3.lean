/- Course of package decide. -/
import Derived.Test.YtkinapdfmgfdfaaCourse2
namespace Go.Proofs.Ytkinapdfmgfdfaa
open Go.RowKit
namespace Nm
def CrsPost (w : World) (l : List Rat) (f : Int) (e : Ending) (w' : World) : Prop := ∃ a cap, e = .returned (.tuple #[.slice a l.length cap, .int .i64 f]) ∧ Sl w' (.slice a l.length cap) l.length (l.flatMap ratL) ∧ Below w.heap.size w w'
theorem evTrail_length (ev : Nat → Nat → Rat) : ∀ (l : List Int) (u v : Nat), (evTrail ev u v l).length = l.length
  | [], _, _ => rfl
  | _ :: r, _, _ => by simp only [evTrail, List.length_cons]; rw [evTrail_length ev r]
set_option maxHeartbeats 4000000 in
theorem Course_at (d k : Int) (n m : ByteArray) (hn : n.size ≤ maxLen) (hm : m.size ≤ maxLen) (l : List Tri) (a : Option Addr) (c : Nat) (w : World) (hs : Sl w (.slice a l.length c) l.length (l.flatMap triL)) :
    Calls Try.prog 11 #[.agg #[.int .i64 d, .int .i64 k, .string n, .string m], .slice a l.length c] w (CrsPost w (crsV d k n m l) (decF d k n m l)) := by
  have HS := Lib.hid hs
  clear hs
  go_enter Try.func11, Try.ntmps11
  go_upto_region 1 with (fail)
  refine wp_box1 fun w0 hsz hbw0 hA0 => ?_
  have t0 : w0.cell? ⟨w.heap.size, 0, none⟩ = some (.int .i64 d) := hA0.2 0
  have t1 : w0.cell? ⟨w.heap.size, 1, none⟩ = some (.int .i64 k) := hA0.2 1
  have t2 : w0.cell? ⟨w.heap.size, 2, none⟩ = some (.string n) := hA0.2 2
  have t3 : w0.cell? ⟨w.heap.size, 3, none⟩ = some (.string m) := hA0.2 3
  clear hsz
  go_wp2_with fail
  refine (readTest_at d k n m hn hm _).mono ?_
  rintro e w1 ⟨dd, kk, b, a1, n1, c1, a2, n2, c2, rfl, hx, hb1⟩
  have HX := Lib.hid hx
  have hbw1 := ext_trans hbw0 hb1
  clear hx t0 t1 t2 t3 hA0 hbw0 hb1
  go_upto_region 2 with (fail)
  refine wp_box2r fun w2 hsz2 hb2 hB2 hE2 hF2 => ?_
  have hbw2 := ext_trans hbw1 hb2
  have e0 : w2.cell? ⟨w1.heap.size + 1, 0, none⟩ = some (.int .i64 (testF d k n m)) := hE2.2 0
  have hle := hbw1.size
  clear hsz2
  by_cases ht : testF d k n m = 0
  · have hne : (testF d k n m != 0) = false := by simp [ht]
    have HT := Lib.hid ht
    obtain ⟨rfl, hkk, hbt⟩ := HX.out ht
    obtain ⟨kn, hkn⟩ : ∃ kn : Nat, k.toNat = kn := ⟨_, rfl⟩
    rw [hkn] at hkk hbt
    subst hkk
    have HKN := Lib.hid hkn
    have HBT := Lib.hid (hbt.ext hb2)
    have HDF : Hid (decF dd k n m l = pairF l) := by
      have : decF dd k n m l = pairF l := by unfold decF; rw [if_pos HT.out]
      exact this
    have hbw1' := Lib.hid hbw1
    have hb2' := Lib.hid hb2
    clear hkn ht hbt HX hb2 hbw1
    go_wp2_with fail
    refine (decide_Pairs l a c _ (HS.out.ext hbw2)).mono ?_
    rintro e w3 ⟨a3, c3, rfl, hs3, hb3⟩
    have hb3' := hb3
    have hbw3 := ext_trans hbw2 hb3
    have hB3 := hB2.ext hb3
    have hE3 := hE2.ext hb3
    have hF3 := hF2.ext hE2 hb3
    have HB3 := Lib.hid (HBT.out.ext hb3)
    have HS3 := Lib.hid hs3
    have e3 : w3.cell? ⟨w1.heap.size + 1, 0, none⟩ = some (.int .i64 (testF dd k n m)) := hE3.2 0
    have f3 := hF3 0
    clear hs3 hb3 hB2 hE2 hF2 hbw2 HBT e0
    have hB4 := box_other hB3 (show w1.heap.size ≠ w1.heap.size + 1 by omega) 0 (.int .i64 (pairF l))
    have hE4 := one_box (y := .int .i64 (pairF l)) hE3
    have hF4 := fre_set hF3 ⟨w1.heap.size + 1, 0, none⟩ (.int .i64 (pairF l))
    have HB4 : Hid (Below w1.heap.size w1 (w3.setCell ⟨w1.heap.size + 1, 0, none⟩ (.int .i64 (pairF l)))) := (ext_trans hb2'.out hb3').setCell (Nat.le_succ _) _
    have hB4s : Hid (w1.heap.size ≤ (w3.setCell ⟨w1.heap.size + 1, 0, none⟩ (.int .i64 (pairF l))).heap.size) := HB4.out.size
    clear hb3'
    have hbw4 : Below w.heap.size w (w3.setCell ⟨w1.heap.size + 1, 0, none⟩ (.int .i64 (pairF l))) := hbw3.setCell (by simp; omega) _
    by_cases hp : pairF l = 0
    · have hne2 : (pairF l != 0) = false := by simp [hp]
      obtain ⟨e1, e2⟩ := pair_ok hp
      have HV : Hid (crsV dd k n m l = evTrail (evQ dd kn) 0 0 (pairZ l)) := by
        have : crsV dd k n m l = evTrail (evQ dd kn) 0 0 (pairZ l) := by unfold crsV; rw [if_pos (by rw [HDF.out]; exact hp), HKN.out]
        exact this
      have HD0 : Hid (decF dd k n m l = 0) := by have := HDF.out; rw [hp] at this; exact this
      have HKW : Hid (Keeps w3 (w3.setCell ⟨w1.heap.size + 1, 0, none⟩ (.int .i64 (pairF l)))) := by
        have h3 := hE3.2 0
        rw [HT.out, ← hp] at h3
        exact fun a v hc => (cell_same h3 a).trans hc
      have HS4 : Hid (Sl w3 (.slice a3 (pairZ l).length c3) (pairZ l).length (ics (pairZ l))) := by have h := HS3.out; rw [e1] at h; exact h
      rw [e1]
      have HP0 := Lib.hid hp
      clear hp
      have z0 : (w3.setCell ⟨w1.heap.size + 1, 0, none⟩ (.int .i64 (pairF l))).cell? ⟨w1.heap.size + 1, 0, none⟩ = some (.int .i64 (pairF l)) := hE4.2 0
      go_upto_region 7 with (fail)
      clear z0
      generalize hw4 : w3.setCell ⟨w1.heap.size + 1, 0, none⟩ (.int .i64 (pairF l)) = w4 at *
      clear hw4 e1 HS3 hB3 hE3 hF3 e3 f3
      have HS5 := Lib.hid (Sl.keep HS4.out HKW.out)
      have HB5 : Hid (Bett w4 dd kn (rQ n m)⁻¹ b a1 n1 c1 a2 n2 c2) := by
        obtain ⟨y1, y2, y3, y4, ⟨v1, v2, hv, hn1, hn2⟩, y6, y7⟩ := HB3.out
        exact ⟨y1, y2, y3, y4, ⟨v1, v2, hv, Sl.keep hn1 HKW.out, Sl.keep hn2 HKW.out⟩, y6, y7⟩
      go_upto_region 8 with (fail)
      refine wp_box1r fun w5 hsz5 hb5 hO5 hFO5 => ?_
      have hBl := hB4.1
      have hEl := hE4.1
      have HE5 : Hid (Box w5 (w1.heap.size + 1) #[.int .i64 0]) := by have h := hE4.ext hb5; rw [HP0.out] at h; exact h
      have HCO : Hid (CO w1 w4 w5 w1.heap.size (w1.heap.size + 1) w4.heap.size (w4.heap.size + 1) (betA dd kn b a1 n1 c1 a2 n2 c2) (.slice none 0 0) 0 []) :=
        ⟨HB4.out.trans (hb5.mono hB4s.out), hB4.ext hb5, HE5.out, hF4.ext hE4 hb5, hO5, hFO5, World.ownsRow_nil _ _ _ _, Nat.le_succ _, by omega, by omega, by omega, by omega, by omega, by omega, by omega, by omega, by omega, .of_below hb5, Nat.le_refl _, Nat.le_succ _⟩
      have hbw5 := ext_trans hbw4 hb5
      clear hsz5 hb5 hO5 hFO5 hB4 hE4 hF4 hBl hEl
      go_wp2_with fail
      refine (walk_course dd kn (rQ n m)⁻¹ b a1 n1 c1 a2 n2 c2 w1 w4 _ _ _ _ (pairZ l) a3 c3 w5 HB5.out HS5.out e2 HCO.out).mono ?_
      rintro e w6 ⟨rfl, vo, hco⟩
      have HC6 := Lib.hid hco
      have HSO := Lib.hid (Sl.ofOwn hco.own)
      obtain ⟨ao, co, rfl⟩ := own_any hco.own
      have z0 : w6.cell? ⟨w1.heap.size + 1, 0, none⟩ = some (.int .i64 0) := hco.e.2 0
      have z1 : w6.cell? ⟨w4.heap.size, 0, none⟩ = some (.slice ao (pairZ l).length co) := hco.o.2 0
      clear hco
      go_wp2
      go_ret2
      refine ⟨ao, co, ?_, ?_, hbw1'.out.trans (HC6.out.low.mono hbw1'.out.size)⟩
      · rw [HD0.out, HV.out, evTrail_length]; rfl
      · rw [HV.out, evTrail_length]; exact HSO.out
    · have hne2 : (pairF l != 0) = true := by simp [hp]
      have HV : Hid (crsV dd k n m l = []) := by
        have : crsV dd k n m l = [] := by unfold crsV; rw [if_neg (by rw [HDF.out]; exact hp)]
        exact this
      clear hp
      have z0 : (w3.setCell ⟨w1.heap.size + 1, 0, none⟩ (.int .i64 (pairF l))).cell? ⟨w1.heap.size + 1, 0, none⟩ = some (.int .i64 (pairF l)) := hE4.2 0
      go_upto_region 6 with (fail)
      generalize w3.setCell ⟨w1.heap.size + 1, 0, none⟩ (.int .i64 (pairF l)) = w4 at *
      go_quiet (fail)
      go_wp2
      go_ret2
      refine ⟨none, 0, ?_, ?_, below_drewN hbw4 _⟩
      · rw [HDF.out, HV.out]; rfl
      · rw [HV.out]; exact Sl.nil _
  · have hne : (testF d k n m != 0) = true := by simp [ht]
    have HDF : Hid (decF d k n m l = testF d k n m ∧ crsV d k n m l = []) := by
      have h1 : decF d k n m l = testF d k n m := by unfold decF; rw [if_neg ht]
      exact ⟨h1, by unfold crsV; rw [if_neg (by rw [h1]; exact ht)]⟩
    clear ht HX hB2 hE2 hF2 hb2 hbw1
    go_wp2
    go_quiet (fail)
    go_wp2
    go_ret2
    refine ⟨none, 0, ?_, ?_, below_drewN hbw2 _⟩
    · rw [HDF.out.1, HDF.out.2]; rfl
    · rw [HDF.out.2]; exact Sl.nil _
end Nm
end Go.Proofs.Ytkinapdfmgfdfaa
