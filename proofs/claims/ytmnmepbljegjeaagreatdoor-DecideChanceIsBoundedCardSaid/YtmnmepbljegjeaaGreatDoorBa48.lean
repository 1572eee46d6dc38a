/- walk with the closure of Course; Decided and Course of package decide. Course of package decide. -/
import Derived.Test.YtmnmepbljegjeaaGreatDoorBa47
namespace Go.Proofs.YtmnmepbljegjeaaGreatDoor
open Go.RowKit
namespace Nm
def WalkPost (w0 wp : World) (bB bE bO base : Nat) (A : Array Value) (n : Nat) (cs : List Value) (e : Ending) (w' : World) : Prop := e = .returned (.tuple #[]) ∧ ∃ v', CO w0 wp w' bB bE bO base A v' n cs
set_option maxHeartbeats 4000000 in
theorem walk_course (d : Int) (bets : Nat) (q : Rat) (b : Bool) (a1 : Option Addr) (n1 c1 : Nat) (a2 : Option Addr) (n2 c2 : Nat) (w0 wp : World) (bB bE bO base : Nat) (l : List Int) (a : Option Addr) (c : Nat) (w : World) (hB : Bett wp d bets q b a1 n1 c1 a2 n2 c2) (hs : Sl wp (.slice a l.length c) l.length (ics l)) (hl : l.length ≤ 60) (hco : CO w0 wp w bB bE bO base (betA d bets b a1 n1 c1 a2 n2 c2) (.slice none 0 0) 0 []) :
    Calls Tryz.prog 114 #[.slice a l.length c, .func (.func 115) #[] #[.pointer (some ⟨bB, 0, none⟩), .pointer (some ⟨bE, 0, none⟩), .pointer (some ⟨bO, 0, none⟩)]] w (WalkPost w0 wp bB bE bO base (betA d bets b a1 n1 c1 a2 n2 c2) l.length ((evTrail (evQ d bets) 0 0 l).flatMap ratL)) := by
  have HCO := Lib.hid hco
  have HBT := Lib.hid hB
  have HS := Lib.hid hs
  clear hco hB hs
  go_enter Tryz.func114, Tryz.ntmps114
  go_wp2
  go_loopw [4, 5, 6, 7, 10] (fun x y _ _ i wr => ∃ (k u v : Nat) (pre : List Rat) (vo : Value), k ≤ l.length ∧ u + v ≤ k ∧ i = .int .i64 k ∧ x = .int .i64 u ∧ y = .int .i64 v ∧ Hid (evTrail (evQ d bets) 0 0 l = pre ++ evTrail (evQ d bets) u v (l.drop k)) ∧ Hid (CO w0 wp wr bB bE bO base (betA d bets b a1 n1 c1 a2 n2 c2) vo k (pre.flatMap ratL))) (fun _ _ _ _ i _ => l.length - (intOf i).toNat)
  case atStart => exact ⟨0, 0, 0, [], _, by omega, by omega, rfl, rfl, rfl, rfl, HCO⟩
  case round =>
    obtain ⟨k, u, v, pre, vo, hk, huv, rfl, rfl, rfl, HK, HCO⟩ := hrel
    by_cases hlt : k < l.length
    · have HST : Hid (evTrail (evQ d bets) 0 0 l = pre ++ (evQ d bets (if l[k] = 1 then u + 1 else u) (if l[k] = -1 then v + 1 else v) :: evTrail (evQ d bets) (if l[k] = 1 then u + 1 else u) (if l[k] = -1 then v + 1 else v) (l.drop (k + 1)))) := by
        have := HK.out; rw [evTrail_step _ _ _ _ hlt] at this; exact this
      obtain ⟨p, o, rfl, hc⟩ := sl_addr (Sl.keep HS.out HCO.out.kp) (ics_get hlt)
      generalize l[k] = x at hc HST
      by_cases hx1 : x = 1
      · subst hx1
        rw [show (if (1 : Int) = 1 then u + 1 else u) = u + 1 by simp, show (if (1 : Int) = -1 then v + 1 else v) = v by simp] at HST
        have HN : Hid (evTrail (evQ d bets) 0 0 l = (pre ++ [evQ d bets (u + 1) v]) ++ evTrail (evQ d bets) (u + 1) v (l.drop (k + 1))) := by
          have := HST.out
          exact (by rw [this, List.append_assoc]; rfl : evTrail (evQ d bets) 0 0 l = (pre ++ [evQ d bets (u + 1) v]) ++ evTrail (evQ d bets) (u + 1) v (l.drop (k + 1)))
        go_wp2_with fail
        refine (course_clo d bets q b a1 n1 c1 a2 n2 c2 w0 wp bB bE bO base ((k : Int) + 1) (u + 1) v (by omega) wr HBT.out vo k (by omega) _ HCO.out).mono ?_
        rintro e w2 ⟨rfl, v', hco⟩
        have HC2 : Hid (CO w0 wp w2 bB bE bO base (betA d bets b a1 n1 c1 a2 n2 c2) v' (k + 1) ((pre ++ [evQ d bets (u + 1) v]).flatMap ratL)) := by
          have h := hco
          rw [show pre.flatMap ratL ++ ratL (evQ d bets (u + 1) v) = (pre ++ [evQ d bets (u + 1) v]).flatMap ratL by simp [List.flatMap_append]] at h
          exact h
        clear hco
        go_wp2
        go_roundw
        case rel => exact ⟨k + 1, (u + 1), v, pre ++ [evQ d bets (u + 1) v], v', by omega, by omega, by go_num, by go_num, by go_num, HN, HC2⟩
        case measure => simp [intOf]; omega
      by_cases hx2 : x = -1
      · subst hx2
        rw [show (if (-1 : Int) = 1 then u + 1 else u) = u by simp, show (if (-1 : Int) = -1 then v + 1 else v) = v + 1 by simp] at HST
        have HN : Hid (evTrail (evQ d bets) 0 0 l = (pre ++ [evQ d bets u (v + 1)]) ++ evTrail (evQ d bets) u (v + 1) (l.drop (k + 1))) := by
          have := HST.out
          exact (by rw [this, List.append_assoc]; rfl : evTrail (evQ d bets) 0 0 l = (pre ++ [evQ d bets u (v + 1)]) ++ evTrail (evQ d bets) u (v + 1) (l.drop (k + 1)))
        go_wp2_with fail
        refine (course_clo d bets q b a1 n1 c1 a2 n2 c2 w0 wp bB bE bO base ((k : Int) + 1) u (v + 1) (by omega) wr HBT.out vo k (by omega) _ HCO.out).mono ?_
        rintro e w2 ⟨rfl, v', hco⟩
        have HC2 : Hid (CO w0 wp w2 bB bE bO base (betA d bets b a1 n1 c1 a2 n2 c2) v' (k + 1) ((pre ++ [evQ d bets u (v + 1)]).flatMap ratL)) := by
          have h := hco
          rw [show pre.flatMap ratL ++ ratL (evQ d bets u (v + 1)) = (pre ++ [evQ d bets u (v + 1)]).flatMap ratL by simp [List.flatMap_append]] at h
          exact h
        clear hco
        go_wp2
        go_roundw
        case rel => exact ⟨k + 1, u, (v + 1), pre ++ [evQ d bets u (v + 1)], v', by omega, by omega, by go_num, by go_num, by go_num, HN, HC2⟩
        case measure => simp [intOf]; omega
      · rw [if_neg hx1, if_neg hx2] at HST
        have hb1 : (x == 1) = false := by simpa using hx1
        have hb2 : (x == -1) = false := by simpa using hx2
        have HN : Hid (evTrail (evQ d bets) 0 0 l = (pre ++ [evQ d bets u v]) ++ evTrail (evQ d bets) u v (l.drop (k + 1))) := by
          have := HST.out
          exact (by rw [this, List.append_assoc]; rfl : evTrail (evQ d bets) 0 0 l = (pre ++ [evQ d bets u v]) ++ evTrail (evQ d bets) u v (l.drop (k + 1)))
        go_wp2_with fail
        refine (course_clo d bets q b a1 n1 c1 a2 n2 c2 w0 wp bB bE bO base ((k : Int) + 1) u v (by omega) wr HBT.out vo k (by omega) _ HCO.out).mono ?_
        rintro e w2 ⟨rfl, v', hco⟩
        have HC2 : Hid (CO w0 wp w2 bB bE bO base (betA d bets b a1 n1 c1 a2 n2 c2) v' (k + 1) ((pre ++ [evQ d bets u v]).flatMap ratL)) := by
          have h := hco
          rw [show pre.flatMap ratL ++ ratL (evQ d bets u v) = (pre ++ [evQ d bets u v]).flatMap ratL by simp [List.flatMap_append]] at h
          exact h
        clear hco
        go_wp2
        go_roundw
        case rel => exact ⟨k + 1, u, v, pre ++ [evQ d bets u v], v', by omega, by omega, by go_num, by go_num, by go_num, HN, HC2⟩
        case measure => simp [intOf]; omega
    · have hkl : k = l.length := by omega
      have HF : Hid (evTrail (evQ d bets) 0 0 l = pre) := by
        have := HK.out; rw [List.drop_eq_nil_of_le (by omega)] at this
        exact (by rw [this]; simp [evTrail] : evTrail (evQ d bets) 0 0 l = pre)
      subst hkl
      go_wp2
      go_end0
      refine ⟨rfl, vo, ?_⟩
      rw [HF.out]; exact HCO.out
/-- what Decided and Course find wrong -/
def decF (d k : Int) (n m : ByteArray) (l : List Tri) : Int := if testF d k n m = 0 then pairF l else testF d k n m
def decV (d k : Int) (n m : ByteArray) (l : List Tri) : Nat := if decF d k n m l = 0 then decAt (decB d k.toNat (rQ n m)⁻¹) 0 0 0 (pairZ l) else 0
def crsV (d k : Int) (n m : ByteArray) (l : List Tri) : List Rat := if decF d k n m l = 0 then evTrail (evQ d k.toNat) 0 0 (pairZ l) else []
theorem pair_ok {l : List Tri} (h : pairF l = 0) : pairL l = pairZ l ∧ (pairZ l).length ≤ 60 := by
  refine ⟨by unfold pairL; rw [if_pos h], ?_⟩
  unfold pairF at h
  by_cases h1 : 20000 < l.length
  · rw [if_pos h1] at h; cases h
  rw [if_neg h1] at h
  by_cases h2 : l.all okT = false
  · rw [if_pos h2] at h; cases h
  rw [if_neg h2] at h
  by_cases h3 : 60 < (pairZ l).length
  · rw [if_pos h3] at h; cases h
  · omega
theorem icells_ics (l : List Int) : icells l = ics l := rfl
set_option maxHeartbeats 4000000 in
theorem Decided_at (d k : Int) (n m : ByteArray) (hn : n.size ≤ maxLen) (hm : m.size ≤ maxLen) (l : List Tri) (a : Option Addr) (c : Nat) (w : World) (hs : Sl w (.slice a l.length c) l.length (l.flatMap triL)) :
    Calls Tryz.prog 40 #[.agg #[.int .i64 d, .int .i64 k, .string n, .string m], .slice a l.length c] w fun e w' => e = .returned (.tuple #[.int .i64 (decV d k n m l), .int .i64 (decF d k n m l)]) ∧ Below w.heap.size w w' := by
  have HS := Lib.hid hs
  clear hs
  go_enter Tryz.func40, Tryz.ntmps40
  go_upto_region 1 with (fail)
  refine wp_box1 fun w0 hsz hbw0 hA0 => ?_
  have t0 : w0.cell? ⟨w.heap.size, 0, none⟩ = some (.int .i64 d) := hA0.2 0
  have t1 : w0.cell? ⟨w.heap.size, 1, none⟩ = some (.int .i64 k) := hA0.2 1
  have t2 : w0.cell? ⟨w.heap.size, 2, none⟩ = some (.string n) := hA0.2 2
  have t3 : w0.cell? ⟨w.heap.size, 3, none⟩ = some (.string m) := hA0.2 3
  clear hsz
  go_wp2_with fail
  refine (readTest_at d k n m hn hm _).mono ?_
  rintro e w1 ⟨dd, kk, b, a1, n1, c1, a2, n2, c2, rfl, hx, hb1⟩
  have HX := Lib.hid hx
  have hbw1 := ext_trans hbw0 hb1
  clear hx t0 t1 t2 t3 hA0 hbw0 hb1
  go_upto_region 2 with (fail)
  refine wp_box1 fun w2 hsz2 hb2 hB2 => ?_
  have hbw2 := ext_trans hbw1 hb2
  clear hsz2
  by_cases ht : testF d k n m = 0
  · have hne : (testF d k n m != 0) = false := by simp [ht]
    have HT := Lib.hid ht
    obtain ⟨rfl, hkk, hbt⟩ := HX.out ht
    obtain ⟨kn, hkn⟩ : ∃ kn : Nat, k.toNat = kn := ⟨_, rfl⟩
    rw [hkn] at hkk hbt
    subst hkk
    have HKN := Lib.hid hkn
    have HBT := Lib.hid (hbt.ext hb2)
    clear hkn
    have HDF : Hid (decF dd k n m l = pairF l) := by
      have : decF dd k n m l = pairF l := by unfold decF; rw [if_pos HT.out]
      exact this
    clear ht hbt HX hb2 hbw1
    go_wp2_with fail
    refine (decide_Pairs l a c _ (HS.out.ext hbw2)).mono ?_
    rintro e w3 ⟨a3, c3, rfl, hs3, hb3⟩
    have hbw3 := ext_trans hbw2 hb3
    have hB3 := hB2.ext hb3
    have HB3 := Lib.hid (HBT.out.ext hb3)
    have HS3 := Lib.hid hs3
    clear hs3 hb3 hB2 hbw2 HBT
    by_cases hp : pairF l = 0
    · have hne2 : (pairF l != 0) = false := by simp [hp]
      obtain ⟨e1, e2⟩ := pair_ok hp
      have HV : Hid (decV dd k n m l = decAt (decB dd kn (rQ n m)⁻¹) 0 0 0 (pairZ l)) := by
        have : decV dd k n m l = decAt (decB dd kn (rQ n m)⁻¹) 0 0 0 (pairZ l) := by unfold decV; rw [if_pos (by rw [HDF.out]; exact hp), HKN.out]
        exact this
      have HP := Lib.hid hp
      rw [e1]
      have HS4 : Hid (Sl w3 (.slice a3 (pairZ l).length c3) (pairZ l).length (ics (pairZ l))) := by have h := HS3.out; rw [e1] at h; exact h
      have b0 : w3.cell? ⟨w1.heap.size, 0, none⟩ = some (.int .i64 dd) := hB3.2 0
      have b1 : w3.cell? ⟨w1.heap.size, 1, none⟩ = some (.int .i64 (kn : Int)) := hB3.2 1
      have b2 : w3.cell? ⟨w1.heap.size, 2, none⟩ = some (.bool b) := hB3.2 2
      have b3 : w3.cell? ⟨w1.heap.size, 3, none⟩ = some (.slice a1 n1 c1) := hB3.2 3
      have b4 : w3.cell? ⟨w1.heap.size, 4, none⟩ = some (.slice a2 n2 c2) := hB3.2 4
      clear hp e1 HS3 hB3
      go_wp2_with fail
      refine (decided_at dd kn (rQ n m)⁻¹ b a1 n1 c1 a2 n2 c2 (pairZ l) a3 c3 _ HB3.out HS4.out e2).mono ?_
      rintro e w4 ⟨rfl, hb4⟩
      go_wp2
      go_ret2
      refine ⟨?_, ext_trans hbw3 hb4⟩
      rw [HDF.out, HP.out, HV.out]; rfl
    · have hne2 : (pairF l != 0) = true := by simp [hp]
      have HV : Hid (decV dd k n m l = 0) := by
        have : decV dd k n m l = 0 := by unfold decV; rw [if_neg (by rw [HDF.out]; exact hp)]
        exact this
      clear hp
      go_wp2
      go_ret2
      refine ⟨?_, hbw3⟩
      rw [HDF.out, HV.out]; rfl
  · have hne : (testF d k n m != 0) = true := by simp [ht]
    have HDF : Hid (decF d k n m l = testF d k n m ∧ decV d k n m l = 0) := by
      have h1 : decF d k n m l = testF d k n m := by unfold decF; rw [if_neg ht]
      exact ⟨h1, by unfold decV; rw [if_neg (by rw [h1]; exact ht)]⟩
    clear ht HX
    go_wp2
    go_ret2
    refine ⟨?_, hbw2⟩
    rw [HDF.out.1, HDF.out.2]; rfl
end Nm
end Go.Proofs.YtmnmepbljegjeaaGreatDoor
namespace Go.Proofs.YtmnmepbljegjeaaGreatDoor
open Go.RowKit
namespace Nm
def CrsPost (w : World) (l : List Rat) (f : Int) (e : Ending) (w' : World) : Prop := ∃ a cap, e = .returned (.tuple #[.slice a l.length cap, .int .i64 f]) ∧ Sl w' (.slice a l.length cap) l.length (l.flatMap ratL) ∧ Below w.heap.size w w'
theorem evTrail_length (ev : Nat → Nat → Rat) : ∀ (l : List Int) (u v : Nat), (evTrail ev u v l).length = l.length
  | [], _, _ => rfl
  | _ :: r, _, _ => by simp only [evTrail, List.length_cons]; rw [evTrail_length ev r]
set_option maxHeartbeats 4000000 in
theorem Course_at (d k : Int) (n m : ByteArray) (hn : n.size ≤ maxLen) (hm : m.size ≤ maxLen) (l : List Tri) (a : Option Addr) (c : Nat) (w : World) (hs : Sl w (.slice a l.length c) l.length (l.flatMap triL)) :
    Calls Tryz.prog 37 #[.agg #[.int .i64 d, .int .i64 k, .string n, .string m], .slice a l.length c] w (CrsPost w (crsV d k n m l) (decF d k n m l)) := by
  have HS := Lib.hid hs
  clear hs
  go_enter Tryz.func37, Tryz.ntmps37
  go_upto_region 1 with (fail)
  refine wp_box1 fun w0 hsz hbw0 hA0 => ?_
  have t0 : w0.cell? ⟨w.heap.size, 0, none⟩ = some (.int .i64 d) := hA0.2 0
  have t1 : w0.cell? ⟨w.heap.size, 1, none⟩ = some (.int .i64 k) := hA0.2 1
  have t2 : w0.cell? ⟨w.heap.size, 2, none⟩ = some (.string n) := hA0.2 2
  have t3 : w0.cell? ⟨w.heap.size, 3, none⟩ = some (.string m) := hA0.2 3
  clear hsz
  go_wp2_with fail
  refine (readTest_at d k n m hn hm _).mono ?_
  rintro e w1 ⟨dd, kk, b, a1, n1, c1, a2, n2, c2, rfl, hx, hb1⟩
  have HX := Lib.hid hx
  have hbw1 := ext_trans hbw0 hb1
  clear hx t0 t1 t2 t3 hA0 hbw0 hb1
  go_upto_region 2 with (fail)
  refine wp_box2r fun w2 hsz2 hb2 hB2 hE2 hF2 => ?_
  have hbw2 := ext_trans hbw1 hb2
  have e0 : w2.cell? ⟨w1.heap.size + 1, 0, none⟩ = some (.int .i64 (testF d k n m)) := hE2.2 0
  have hle := hbw1.size
  clear hsz2
  by_cases ht : testF d k n m = 0
  · have hne : (testF d k n m != 0) = false := by simp [ht]
    have HT := Lib.hid ht
    obtain ⟨rfl, hkk, hbt⟩ := HX.out ht
    obtain ⟨kn, hkn⟩ : ∃ kn : Nat, k.toNat = kn := ⟨_, rfl⟩
    rw [hkn] at hkk hbt
    subst hkk
    have HKN := Lib.hid hkn
    have HBT := Lib.hid (hbt.ext hb2)
    have HDF : Hid (decF dd k n m l = pairF l) := by
      have : decF dd k n m l = pairF l := by unfold decF; rw [if_pos HT.out]
      exact this
    have hbw1' := Lib.hid hbw1
    have hb2' := Lib.hid hb2
    clear hkn ht hbt HX hb2 hbw1
    go_wp2_with fail
    refine (decide_Pairs l a c _ (HS.out.ext hbw2)).mono ?_
    rintro e w3 ⟨a3, c3, rfl, hs3, hb3⟩
    have hb3' := hb3
    have hbw3 := ext_trans hbw2 hb3
    have hB3 := hB2.ext hb3
    have hE3 := hE2.ext hb3
    have hF3 := hF2.ext hE2 hb3
    have HB3 := Lib.hid (HBT.out.ext hb3)
    have HS3 := Lib.hid hs3
    have e3 : w3.cell? ⟨w1.heap.size + 1, 0, none⟩ = some (.int .i64 (testF dd k n m)) := hE3.2 0
    have f3 := hF3 0
    clear hs3 hb3 hB2 hE2 hF2 hbw2 HBT e0
    have hB4 := box_other hB3 (show w1.heap.size ≠ w1.heap.size + 1 by omega) 0 (.int .i64 (pairF l))
    have hE4 := one_box (y := .int .i64 (pairF l)) hE3
    have hF4 := fre_set hF3 ⟨w1.heap.size + 1, 0, none⟩ (.int .i64 (pairF l))
    have HB4 : Hid (Below w1.heap.size w1 (w3.setCell ⟨w1.heap.size + 1, 0, none⟩ (.int .i64 (pairF l)))) := (ext_trans hb2'.out hb3').setCell (Nat.le_succ _) _
    have hB4s : Hid (w1.heap.size ≤ (w3.setCell ⟨w1.heap.size + 1, 0, none⟩ (.int .i64 (pairF l))).heap.size) := HB4.out.size
    clear hb3'
    have hbw4 : Below w.heap.size w (w3.setCell ⟨w1.heap.size + 1, 0, none⟩ (.int .i64 (pairF l))) := hbw3.setCell (by simp; omega) _
    by_cases hp : pairF l = 0
    · have hne2 : (pairF l != 0) = false := by simp [hp]
      obtain ⟨e1, e2⟩ := pair_ok hp
      have HV : Hid (crsV dd k n m l = evTrail (evQ dd kn) 0 0 (pairZ l)) := by
        have : crsV dd k n m l = evTrail (evQ dd kn) 0 0 (pairZ l) := by unfold crsV; rw [if_pos (by rw [HDF.out]; exact hp), HKN.out]
        exact this
      have HD0 : Hid (decF dd k n m l = 0) := by have := HDF.out; rw [hp] at this; exact this
      have HKW : Hid (Keeps w3 (w3.setCell ⟨w1.heap.size + 1, 0, none⟩ (.int .i64 (pairF l)))) := by
        have h3 := hE3.2 0
        rw [HT.out, ← hp] at h3
        exact fun a v hc => (cell_same h3 a).trans hc
      have HS4 : Hid (Sl w3 (.slice a3 (pairZ l).length c3) (pairZ l).length (ics (pairZ l))) := by have h := HS3.out; rw [e1] at h; exact h
      rw [e1]
      have HP0 := Lib.hid hp
      clear hp
      have z0 : (w3.setCell ⟨w1.heap.size + 1, 0, none⟩ (.int .i64 (pairF l))).cell? ⟨w1.heap.size + 1, 0, none⟩ = some (.int .i64 (pairF l)) := hE4.2 0
      go_upto_region 7 with (fail)
      clear z0
      generalize hw4 : w3.setCell ⟨w1.heap.size + 1, 0, none⟩ (.int .i64 (pairF l)) = w4 at *
      clear hw4 e1 HS3 hB3 hE3 hF3 e3 f3
      have HS5 := Lib.hid (Sl.keep HS4.out HKW.out)
      have HB5 : Hid (Bett w4 dd kn (rQ n m)⁻¹ b a1 n1 c1 a2 n2 c2) := by
        obtain ⟨y1, y2, y3, y4, ⟨v1, v2, hv, hn1, hn2⟩, y6, y7⟩ := HB3.out
        exact ⟨y1, y2, y3, y4, ⟨v1, v2, hv, Sl.keep hn1 HKW.out, Sl.keep hn2 HKW.out⟩, y6, y7⟩
      go_upto_region 8 with (fail)
      refine wp_box1r fun w5 hsz5 hb5 hO5 hFO5 => ?_
      have hBl := hB4.1
      have hEl := hE4.1
      have HE5 : Hid (Box w5 (w1.heap.size + 1) #[.int .i64 0]) := by have h := hE4.ext hb5; rw [HP0.out] at h; exact h
      have HCO : Hid (CO w1 w4 w5 w1.heap.size (w1.heap.size + 1) w4.heap.size (w4.heap.size + 1) (betA dd kn b a1 n1 c1 a2 n2 c2) (.slice none 0 0) 0 []) :=
        ⟨HB4.out.trans (hb5.mono hB4s.out), hB4.ext hb5, HE5.out, hF4.ext hE4 hb5, hO5, hFO5, World.ownsRow_nil _ _ _ _, Nat.le_succ _, by omega, by omega, by omega, by omega, by omega, by omega, by omega, by omega, by omega, .of_below hb5, Nat.le_refl _, Nat.le_succ _⟩
      have hbw5 := ext_trans hbw4 hb5
      clear hsz5 hb5 hO5 hFO5 hB4 hE4 hF4 hBl hEl
      go_wp2_with fail
      refine (walk_course dd kn (rQ n m)⁻¹ b a1 n1 c1 a2 n2 c2 w1 w4 _ _ _ _ (pairZ l) a3 c3 w5 HB5.out HS5.out e2 HCO.out).mono ?_
      rintro e w6 ⟨rfl, vo, hco⟩
      have HC6 := Lib.hid hco
      have HSO := Lib.hid (Sl.ofOwn hco.own)
      obtain ⟨ao, co, rfl⟩ := own_any hco.own
      have z0 : w6.cell? ⟨w1.heap.size + 1, 0, none⟩ = some (.int .i64 0) := hco.e.2 0
      have z1 : w6.cell? ⟨w4.heap.size, 0, none⟩ = some (.slice ao (pairZ l).length co) := hco.o.2 0
      clear hco
      go_wp2
      go_ret2
      refine ⟨ao, co, ?_, ?_, hbw1'.out.trans (HC6.out.low.mono hbw1'.out.size)⟩
      · rw [HD0.out, HV.out, evTrail_length]; rfl
      · rw [HV.out, evTrail_length]; exact HSO.out
    · have hne2 : (pairF l != 0) = true := by simp [hp]
      have HV : Hid (crsV dd k n m l = []) := by
        have : crsV dd k n m l = [] := by unfold crsV; rw [if_neg (by rw [HDF.out]; exact hp)]
        exact this
      clear hp
      have z0 : (w3.setCell ⟨w1.heap.size + 1, 0, none⟩ (.int .i64 (pairF l))).cell? ⟨w1.heap.size + 1, 0, none⟩ = some (.int .i64 (pairF l)) := hE4.2 0
      go_upto_region 6 with (fail)
      generalize w3.setCell ⟨w1.heap.size + 1, 0, none⟩ (.int .i64 (pairF l)) = w4 at *
      go_quiet (fail)
      go_wp2
      go_ret2
      refine ⟨none, 0, ?_, ?_, below_drewN hbw4 _⟩
      · rw [HDF.out, HV.out]; rfl
      · rw [HV.out]; exact Sl.nil _
  · have hne : (testF d k n m != 0) = true := by simp [ht]
    have HDF : Hid (decF d k n m l = testF d k n m ∧ crsV d k n m l = []) := by
      have h1 : decF d k n m l = testF d k n m := by unfold decF; rw [if_neg ht]
      exact ⟨h1, by unfold crsV; rw [if_neg (by rw [h1]; exact ht)]⟩
    clear ht HX hB2 hE2 hF2 hb2 hbw1
    go_wp2
    go_quiet (fail)
    go_wp2
    go_ret2
    refine ⟨none, 0, ?_, ?_, below_drewN hbw2 _⟩
    · rw [HDF.out.1, HDF.out.2]; rfl
    · rw [HDF.out.2]; exact Sl.nil _
end Nm
end Go.Proofs.YtmnmepbljegjeaaGreatDoor
