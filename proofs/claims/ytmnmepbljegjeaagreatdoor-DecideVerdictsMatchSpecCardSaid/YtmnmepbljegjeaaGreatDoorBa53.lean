/- course, decided, Course, Decided of the reference: the program's terms. Printed by gen_rcourse.py. -/
import Derived.Test.YtmnmepbljegjeaaGreatDoorBa51
import Derived.Test.YtmnmepbljegjeaaGreatDoorBa69
import Derived.Test.YtmnmepbljegjeaaGreatDoorBa38
namespace Go.Proofs.YtmnmepbljegjeaaGreatDoor
open Go.RowKit
namespace Nt
open _root_.Go.Proofs.YtmnmepbljegjeaaGreatDoor.Nm (showN showD outN outD Fits show_size rQ testF test_ok evR evR_ln evQ evQ_real Ln decB decAt ics ics_get evTrail evTrail_step evTrail_length ratL rat_info decF decV crsV CrsPost pair_ok out_fits)
open _root_.Go.Proofs.YtmnmepbljegjeaaGreatDoor.lawLine (miss_parts dec_enough)
theorem rat_cells {q : Rat} (h : Fits q) : [Value.string (showN q), Value.string (showD q)] = ratL q := by
  unfold ratL; rw [(out_fits h).1, (out_fits h).2.1]
theorem trail_mem (ev : Nat → Nat → Rat) : ∀ (l : List Int) (u v : Nat), ∀ e ∈ evTrail ev u v l, ∃ u' v', u' + v' ≤ u + v + l.length ∧ e = ev u' v'
  | [], _, _, e, h => by simp [evTrail] at h
  | p :: r, u, v, e, h => by
    simp only [evTrail, List.mem_cons] at h
    rcases h with rfl | h
    · refine ⟨_, _, ?_, rfl⟩
      simp only [List.length_cons]
      split <;> split <;> omega
    · obtain ⟨u', v', h1, h2⟩ := trail_mem ev r _ _ e h
      refine ⟨u', v', ?_, h2⟩
      simp only [List.length_cons]
      revert h1
      split <;> split <;> omega
theorem trail_congr {ev ev' : Nat → Nat → Rat} (h : ∀ u v, ev u v = ev' u v) : ∀ (l : List Int) (u v : Nat), evTrail ev u v l = evTrail ev' u v l
  | [], _, _ => rfl
  | p :: r, u, v => by simp only [evTrail]; rw [h, trail_congr h r]
/-- the first place, counted from k + 1 on, of what passes a test; or 0 -/
def fstAt (t : Rat → Bool) : Nat → List Rat → Nat
  | _, [] => 0
  | k, e :: r => if t e then k + 1 else fstAt t (k + 1) r
theorem fstAt_drop (t : Rat → Bool) {k : Nat} {l : List Rat} (h : k < l.length) : fstAt t k (l.drop k) = if t l[k] then k + 1 else fstAt t (k + 1) (l.drop (k + 1)) := by
  rw [List.drop_eq_getElem_cons h]; rfl
theorem decAt_fst {dec : Nat → Nat → Bool} {ev : Nat → Nat → Rat} {t : Rat → Bool} (h : ∀ u v, dec u v = t (ev u v)) : ∀ (l : List Int) (u v k : Nat), decAt dec u v k l = fstAt t k (evTrail ev u v l)
  | [], _, _, _ => rfl
  | p :: r, u, v, k => by simp only [decAt, evTrail, fstAt]; rw [h, decAt_fst h r]
def RatsPost (w : World) (L : List Rat) (e : Ending) (w' : World) : Prop := ∃ a cap, e = .returned (.slice a L.length cap) ∧ Sl w' (.slice a L.length cap) L.length (L.flatMap ratL) ∧ Below w.heap.size w w'
theorem slice_of_row {w : World} {base e size n : Nat} {v : Value} {xs : List Value} (h : w.ownsRow base e size v n xs) : ∃ a cap, v = .slice a n cap := own_any h
set_option maxRecDepth 100000 in
set_option maxHeartbeats 8000000 in
theorem course_at (d : Int) (d1 : 1 ≤ d) (d3 : d ≤ 3) (kn : Nat) (h1 : 1 ≤ kn) (h5 : kn ≤ 5) (n m : ByteArray) (l : List Int) (hl : l.length ≤ 60) (a : Option Addr) (c : Nat) (w : World) (hs : Sl w (.slice a l.length c) l.length (ics l)) (ht : Tab w) :
    Calls Tryz.prog 116 #[.agg #[.int .i64 d, .int .i64 (kn : Int), .string n, .string m], .slice a l.length c] w (RatsPost w (evTrail (evR d kn) 0 0 l)) := by
  have HS := Lib.hid hs
  clear hs
  go_enter Tryz.func116, Tryz.ntmps116
  have HT0 := Lib.hid ht
  clear ht
  go_upto_region 1 with (fail)
  refine wp_box1 fun w1' hsz hbW hA0 => ?_
  clear hsz
  have HB_t := Lib.hid hA0
  have HW := Lib.hid hbW
  clear hbW hA0
  have HI := Lib.hid rat_info
  have hbt : w.heap.size < w1'.heap.size := HB_t.out.1
  have HBW := Lib.hid (Nat.le_refl w1'.heap.size)
  obtain ⟨base, hbase⟩ : ∃ x, x = w1'.heap.size := ⟨_, rfl⟩
  rw [← hbase] at hbt HBW
  have HOW : Hid (w1'.ownsRow base 23 2 (.slice none 0 0) 0 (([] : List Rat).flatMap ratL)) := Lib.hid (World.ownsRow_nil _ _ _ _)
  have HLE : Hid (base ≤ w1'.heap.size) := Lib.hid (by omega)
  clear HBW hbase
  go_wp2
  go_loopw [5, 6, 7, 9, 12] (fun s x y _ i wr => ∃ (k u v : Nat) (pre : List Rat), k ≤ l.length ∧ u + v ≤ k ∧ i = .int .i64 k ∧ x = .int .i64 u ∧ y = .int .i64 v ∧ Hid (evTrail (evR d kn) 0 0 l = pre ++ evTrail (evR d kn) u v (l.drop k)) ∧ Hid (wr.ownsRow base 23 2 s k (pre.flatMap ratL)) ∧ Hid (base ≤ wr.heap.size) ∧ (Box wr w.heap.size #[.int .i64 d, .int .i64 (kn : Int), .string n, .string m]) ∧ (Below w.heap.size w wr)) (fun _ _ _ _ i _ => l.length - (intOf i).toNat)
  case atStart => exact ⟨0, 0, 0, [], by omega, by omega, rfl, rfl, rfl, rfl, HOW, HLE, HB_t.out, HW.out⟩
  case round =>
    obtain ⟨k, u, v, pre, hk, huv, rfl, rfl, rfl, HK, HOK, HLK, q_HB_t, q_HW⟩ := hrel
    clear HB_t HW
    clear HOW HLE
    have HB_t := Lib.hid q_HB_t
    have HW := Lib.hid q_HW
    clear q_HB_t q_HW
    generalize hX : wr = X at *
    clear hX
    by_cases hlt : k < l.length
    · have HST : Hid (evTrail (evR d kn) 0 0 l = pre ++ (evR d kn (if l[k] = 1 then u + 1 else u) (if l[k] = -1 then v + 1 else v) :: evTrail (evR d kn) (if l[k] = 1 then u + 1 else u) (if l[k] = -1 then v + 1 else v) (l.drop (k + 1)))) := by
        have := HK.out; rw [evTrail_step _ _ _ _ hlt] at this; exact this
      obtain ⟨p, o, rfl, hc⟩ := sl_addr (HS.out.ext (HW.out)) (ics_get hlt)
      generalize l[k] = x at hc HST
      clear HK
      have hk60 : k + 1 ≤ 60 := by omega
      by_cases hx1 : x = 1
      · subst hx1
        rw [show (if (1 : Int) = 1 then u + 1 else u) = u + 1 by simp, show (if (1 : Int) = -1 then v + 1 else v) = v by simp] at HST
        obtain ⟨E, hE⟩ : ∃ E, evR d kn (u + 1) (v) = E := ⟨_, rfl⟩
        have HE := Lib.hid hE
        have hef : Fits E := by rw [← hE]; exact (evR_ln h1 h5 (by omega) (by omega)).fits (by omega) (by omega)
        have HN : Hid (evTrail (evR d kn) 0 0 l = (pre ++ [E]) ++ evTrail (evR d kn) (u + 1) (v) (l.drop (k + 1))) := by
          have := HST.out
          rw [hE] at this
          exact (by rw [this, List.append_assoc]; rfl : evTrail (evR d kn) 0 0 l = (pre ++ [E]) ++ evTrail (evR d kn) (u + 1) (v) (l.drop (k + 1)))
        have HRC := Lib.hid (rat_cells hef)
        clear HST hE
        have c_t_0 : X.cell? ⟨w.heap.size, 0, none⟩ = some (.int .i64 d) := HB_t.out.2 0
        have c_t_1 : X.cell? ⟨w.heap.size, 1, none⟩ = some (.int .i64 (kn : Int)) := HB_t.out.2 1
        have c_t_2 : X.cell? ⟨w.heap.size, 2, none⟩ = some (.string n) := HB_t.out.2 2
        have c_t_3 : X.cell? ⟨w.heap.size, 3, none⟩ = some (.string m) := HB_t.out.2 3
        go_wp2_with fail
        refine (refEvid_is d (kn : Int) _ _ kn (u + 1) (v) rfl (by go_num) (by go_num) d1 d3 n m h1 h5 (by omega) (by omega) X (HT0.out.ext HW.out)).mono ?_
        rintro e w2' ⟨rfl, hbz⟩
        rw [HE.out]
        replace HB_t := Lib.hid (HB_t.out.ext hbz)
        replace HW := Lib.hid (ext_trans HW.out hbz)
        clear c_t_0 c_t_1 c_t_2 c_t_3
        replace HOK := Lib.hid (ownsRow_ext HOK.out hbz)
        replace HLK := Lib.hid (Nat.le_trans HLK.out hbz.size)
        clear hbz
        have HOB := Lib.hid (ownsRow_ext HOK.out (ext_alloc w2' (.cells #[.string (showN E), .string (showD E)] 23)))
        have HLB : Hid (base ≤ (w2'.alloc (.cells #[.string (showN E), .string (showD E)] 23)).heap.size) := Lib.hid (Nat.le_trans HLK.out (ext_alloc w2' (.cells #[.string (showN E), .string (showD E)] 23)).size)
        have HBB := Lib.hid (HB_t.out.ext (ext_alloc w2' (.cells #[.string (showN E), .string (showD E)] 23)))
        have HWB := Lib.hid (ext_trans HW.out (ext_alloc w2' (.cells #[.string (showN E), .string (showD E)] 23)))
        have hk2 : k + 1 ≤ maxLen := by unfold maxLen; omega
        go_wp2_with (at_builtin; refine wpList_append_sl rfl _ _ 51 rfl base 23 Tryz.underlying51 HI.out rfl (by decide) rfl HOB.out rfl (Sl.new _ _ _ 1 1 (by omega) (by decide)) rfl (by intro u hu; simp at hu; rcases hu with rfl | rfl <;> rfl) hk2 (by omega) HLB.out ?_; intro v7 w7 hown7 hg7 _; have HR7 := Lib.hid hown7; have HB7 := Lib.hid (box_grown hg7 HBB.out (fun q e => by have := (HOB.out.lt q e).1; omega)); have HW7 := Lib.hid (HWB.out.grown hg7 HWB.out.size (fun q e => by have := (HOB.out.lt q e).1; omega)); have HL7 := Lib.hid (Nat.le_trans HLB.out hg7.size); clear hown7 hg7)
        go_roundw
        case rel => exact ⟨k + 1, u + 1, v, pre ++ [E], by omega, by omega, by go_num, by go_num, by go_num, HN, Lib.hid (by have h := HR7.out; rw [HRC.out] at h; rw [List.flatMap_append]; simpa using h), HL7, HB7.out, HW7.out⟩
        case measure => simp [intOf]; omega
      by_cases hx2 : x = -1
      · subst hx2
        clear hx1
        rw [show (if (-1 : Int) = 1 then u + 1 else u) = u by simp, show (if (-1 : Int) = -1 then v + 1 else v) = v + 1 by simp] at HST
        obtain ⟨E, hE⟩ : ∃ E, evR d kn (u) (v + 1) = E := ⟨_, rfl⟩
        have HE := Lib.hid hE
        have hef : Fits E := by rw [← hE]; exact (evR_ln h1 h5 (by omega) (by omega)).fits (by omega) (by omega)
        have HN : Hid (evTrail (evR d kn) 0 0 l = (pre ++ [E]) ++ evTrail (evR d kn) (u) (v + 1) (l.drop (k + 1))) := by
          have := HST.out
          rw [hE] at this
          exact (by rw [this, List.append_assoc]; rfl : evTrail (evR d kn) 0 0 l = (pre ++ [E]) ++ evTrail (evR d kn) (u) (v + 1) (l.drop (k + 1)))
        have HRC := Lib.hid (rat_cells hef)
        clear HST hE
        have c_t_0 : X.cell? ⟨w.heap.size, 0, none⟩ = some (.int .i64 d) := HB_t.out.2 0
        have c_t_1 : X.cell? ⟨w.heap.size, 1, none⟩ = some (.int .i64 (kn : Int)) := HB_t.out.2 1
        have c_t_2 : X.cell? ⟨w.heap.size, 2, none⟩ = some (.string n) := HB_t.out.2 2
        have c_t_3 : X.cell? ⟨w.heap.size, 3, none⟩ = some (.string m) := HB_t.out.2 3
        go_wp2_with fail
        refine (refEvid_is d (kn : Int) _ _ kn (u) (v + 1) rfl (by go_num) (by go_num) d1 d3 n m h1 h5 (by omega) (by omega) X (HT0.out.ext HW.out)).mono ?_
        rintro e w2' ⟨rfl, hbz⟩
        rw [HE.out]
        replace HB_t := Lib.hid (HB_t.out.ext hbz)
        replace HW := Lib.hid (ext_trans HW.out hbz)
        clear c_t_0 c_t_1 c_t_2 c_t_3
        replace HOK := Lib.hid (ownsRow_ext HOK.out hbz)
        replace HLK := Lib.hid (Nat.le_trans HLK.out hbz.size)
        clear hbz
        have HOB := Lib.hid (ownsRow_ext HOK.out (ext_alloc w2' (.cells #[.string (showN E), .string (showD E)] 23)))
        have HLB : Hid (base ≤ (w2'.alloc (.cells #[.string (showN E), .string (showD E)] 23)).heap.size) := Lib.hid (Nat.le_trans HLK.out (ext_alloc w2' (.cells #[.string (showN E), .string (showD E)] 23)).size)
        have HBB := Lib.hid (HB_t.out.ext (ext_alloc w2' (.cells #[.string (showN E), .string (showD E)] 23)))
        have HWB := Lib.hid (ext_trans HW.out (ext_alloc w2' (.cells #[.string (showN E), .string (showD E)] 23)))
        have hk2 : k + 1 ≤ maxLen := by unfold maxLen; omega
        go_wp2_with (at_builtin; refine wpList_append_sl rfl _ _ 51 rfl base 23 Tryz.underlying51 HI.out rfl (by decide) rfl HOB.out rfl (Sl.new _ _ _ 1 1 (by omega) (by decide)) rfl (by intro u hu; simp at hu; rcases hu with rfl | rfl <;> rfl) hk2 (by omega) HLB.out ?_; intro v7 w7 hown7 hg7 _; have HR7 := Lib.hid hown7; have HB7 := Lib.hid (box_grown hg7 HBB.out (fun q e => by have := (HOB.out.lt q e).1; omega)); have HW7 := Lib.hid (HWB.out.grown hg7 HWB.out.size (fun q e => by have := (HOB.out.lt q e).1; omega)); have HL7 := Lib.hid (Nat.le_trans HLB.out hg7.size); clear hown7 hg7)
        go_roundw
        case rel => exact ⟨k + 1, u, v + 1, pre ++ [E], by omega, by omega, by go_num, by go_num, by go_num, HN, Lib.hid (by have h := HR7.out; rw [HRC.out] at h; rw [List.flatMap_append]; simpa using h), HL7, HB7.out, HW7.out⟩
        case measure => simp [intOf]; omega
      · rw [if_neg hx1, if_neg hx2] at HST
        have hb1 : (x == 1) = false := by simpa using hx1
        have hb2 : (x == -1) = false := by simpa using hx2
        clear hx1 hx2
        obtain ⟨E, hE⟩ : ∃ E, evR d kn (u) (v) = E := ⟨_, rfl⟩
        have HE := Lib.hid hE
        have hef : Fits E := by rw [← hE]; exact (evR_ln h1 h5 (by omega) (by omega)).fits (by omega) (by omega)
        have HN : Hid (evTrail (evR d kn) 0 0 l = (pre ++ [E]) ++ evTrail (evR d kn) (u) (v) (l.drop (k + 1))) := by
          have := HST.out
          rw [hE] at this
          exact (by rw [this, List.append_assoc]; rfl : evTrail (evR d kn) 0 0 l = (pre ++ [E]) ++ evTrail (evR d kn) (u) (v) (l.drop (k + 1)))
        have HRC := Lib.hid (rat_cells hef)
        clear HST hE
        have c_t_0 : X.cell? ⟨w.heap.size, 0, none⟩ = some (.int .i64 d) := HB_t.out.2 0
        have c_t_1 : X.cell? ⟨w.heap.size, 1, none⟩ = some (.int .i64 (kn : Int)) := HB_t.out.2 1
        have c_t_2 : X.cell? ⟨w.heap.size, 2, none⟩ = some (.string n) := HB_t.out.2 2
        have c_t_3 : X.cell? ⟨w.heap.size, 3, none⟩ = some (.string m) := HB_t.out.2 3
        go_wp2_with fail
        refine (refEvid_is d (kn : Int) _ _ kn (u) (v) rfl (by go_num) (by go_num) d1 d3 n m h1 h5 (by omega) (by omega) X (HT0.out.ext HW.out)).mono ?_
        rintro e w2' ⟨rfl, hbz⟩
        rw [HE.out]
        replace HB_t := Lib.hid (HB_t.out.ext hbz)
        replace HW := Lib.hid (ext_trans HW.out hbz)
        clear c_t_0 c_t_1 c_t_2 c_t_3
        replace HOK := Lib.hid (ownsRow_ext HOK.out hbz)
        replace HLK := Lib.hid (Nat.le_trans HLK.out hbz.size)
        clear hbz
        have HOB := Lib.hid (ownsRow_ext HOK.out (ext_alloc w2' (.cells #[.string (showN E), .string (showD E)] 23)))
        have HLB : Hid (base ≤ (w2'.alloc (.cells #[.string (showN E), .string (showD E)] 23)).heap.size) := Lib.hid (Nat.le_trans HLK.out (ext_alloc w2' (.cells #[.string (showN E), .string (showD E)] 23)).size)
        have HBB := Lib.hid (HB_t.out.ext (ext_alloc w2' (.cells #[.string (showN E), .string (showD E)] 23)))
        have HWB := Lib.hid (ext_trans HW.out (ext_alloc w2' (.cells #[.string (showN E), .string (showD E)] 23)))
        have hk2 : k + 1 ≤ maxLen := by unfold maxLen; omega
        go_wp2_with (at_builtin; refine wpList_append_sl rfl _ _ 51 rfl base 23 Tryz.underlying51 HI.out rfl (by decide) rfl HOB.out rfl (Sl.new _ _ _ 1 1 (by omega) (by decide)) rfl (by intro u hu; simp at hu; rcases hu with rfl | rfl <;> rfl) hk2 (by omega) HLB.out ?_; intro v7 w7 hown7 hg7 _; have HR7 := Lib.hid hown7; have HB7 := Lib.hid (box_grown hg7 HBB.out (fun q e => by have := (HOB.out.lt q e).1; omega)); have HW7 := Lib.hid (HWB.out.grown hg7 HWB.out.size (fun q e => by have := (HOB.out.lt q e).1; omega)); have HL7 := Lib.hid (Nat.le_trans HLB.out hg7.size); clear hown7 hg7)
        go_roundw
        case rel => exact ⟨k + 1, u, v, pre ++ [E], by omega, by omega, by go_num, by go_num, by go_num, HN, Lib.hid (by have h := HR7.out; rw [HRC.out] at h; rw [List.flatMap_append]; simpa using h), HL7, HB7.out, HW7.out⟩
        case measure => simp [intOf]; omega
    · have hkl : k = l.length := by omega
      have HF : Hid (evTrail (evR d kn) 0 0 l = pre) := by
        have := HK.out
        rw [List.drop_of_length_le (by omega)] at this
        have h2 : evTrail (evR d kn) 0 0 l = pre := by rw [this]; simp [evTrail]
        exact h2
      subst hkl
      obtain ⟨a9, c9, rfl⟩ := slice_of_row HOK.out
      go_wp2
      exact bodyPost_ret (v := .slice a9 l.length c9) (by simp [results, Tryz.results116, go_sem]) rfl ⟨a9, c9, by rw [evTrail_length], by rw [evTrail_length, HF.out]; exact Sl.ofOwn HOK.out, HW.out⟩
set_option maxRecDepth 100000 in
set_option maxHeartbeats 8000000 in
theorem decided_at (d : Int) (d1 : 1 ≤ d) (d3 : d ≤ 3) (kn : Nat) (h1 : 1 ≤ kn) (h5 : kn ≤ 5) (q : Rat) (hq : Fits q) (h0 : 0 < q) (hlq : Ln 100 100 q) (l : List Int) (hl : l.length ≤ 60) (a : Option Addr) (c : Nat) (w : World) (hs : Sl w (.slice a l.length c) l.length (ics l)) (ht : Tab w) :
    Calls Tryz.prog 118 #[.agg #[.int .i64 d, .int .i64 (kn : Int), .string (showN q), .string (showD q)], .slice a l.length c] w (fun e w' => e = .returned (.int .i64 ((decAt (decB d kn q⁻¹) 0 0 0 l : Nat) : Int)) ∧ Below w.heap.size w w') := by
  have HS := Lib.hid hs
  clear hs
  obtain ⟨L, hL⟩ : ∃ L, evTrail (evR d kn) 0 0 l = L := ⟨_, rfl⟩
  have hLl : L.length = l.length := by rw [← hL, evTrail_length]
  obtain ⟨t, ht9⟩ : ∃ t : Rat → Bool, t = fun e => !(decide (e * q < 1)) := ⟨_, rfl⟩
  have HM : Hid (∀ e ∈ L, Fits e ∧ Fits (e * q)) := Lib.hid fun e he => by
    rw [← hL] at he
    obtain ⟨u', v', huv, rfl⟩ := trail_mem _ _ _ _ e he
    have hln : Ln 2700 1300 (evR d kn u' v') := evR_ln h1 h5 (by omega) (by omega)
    exact ⟨hln.fits (by omega) (by omega), (hln.mul hlq).fits (by omega) (by omega)⟩
  have HT9 : Hid (∀ e, (!(decide (e * q < 1))) = t e) := Lib.hid fun e => by rw [ht9]
  have hres : decAt (decB d kn q⁻¹) 0 0 0 l = fstAt t 0 L := by rw [← hL]; exact decAt_fst (fun u v => by rw [dec_enough d1 d3 h1 h0 u v, ht9]) l 0 0 0
  rw [hres]
  obtain ⟨res, hr⟩ : ∃ r, fstAt t 0 L = r := ⟨_, rfl⟩
  rw [hr]
  have HR := Lib.hid hr
  have HQ := Lib.hid hq
  have HL := Lib.hid hL
  clear hr hres ht9 hq hlq h0 hL
  go_enter Tryz.func118, Tryz.ntmps118
  have HT0 := Lib.hid ht
  clear ht
  go_upto_region 1 with (fail)
  refine wp_box1 fun w1' hsz hbW hA0 => ?_
  clear hsz
  have HB_t := Lib.hid hA0
  have HW := Lib.hid hbW
  clear hbW hA0
  have c_t_0 : w1'.cell? ⟨w.heap.size, 0, none⟩ = some (.int .i64 d) := HB_t.out.2 0
  have c_t_1 : w1'.cell? ⟨w.heap.size, 1, none⟩ = some (.int .i64 (kn : Int)) := HB_t.out.2 1
  have c_t_2 : w1'.cell? ⟨w.heap.size, 2, none⟩ = some (.string (showN q)) := HB_t.out.2 2
  have c_t_3 : w1'.cell? ⟨w.heap.size, 3, none⟩ = some (.string (showD q)) := HB_t.out.2 3
  go_wp2_with fail
  refine (course_at d d1 d3 kn h1 h5 (showN q) (showD q) l hl a c w1' (HS.out.ext HW.out) (HT0.out.ext HW.out)).mono ?_
  rintro e w2' ⟨a1, c1, rfl, hs1, hbz⟩
  rw [HL.out] at hs1
  rw [HL.out]
  have HSL := Lib.hid hs1
  clear hs1
  replace HB_t := Lib.hid (HB_t.out.ext hbz)
  replace HW := Lib.hid (ext_trans HW.out hbz)
  clear c_t_0 c_t_1 c_t_2 c_t_3
  clear hbz
  go_wp2
  go_loopw [5, 11] (fun _ i wr => ∃ k : Nat, k ≤ L.length ∧ i = .int .i64 k ∧ Hid (fstAt t k (L.drop k) = res) ∧ (Box wr w.heap.size #[.int .i64 d, .int .i64 (kn : Int), .string (showN q), .string (showD q)]) ∧ (Sl wr (.slice a1 L.length c1) L.length (L.flatMap ratL)) ∧ (Below w.heap.size w wr)) (fun _ i _ => L.length - (intOf i).toNat)
  case atStart => exact ⟨0, by omega, rfl, HR, HB_t.out, HSL.out, HW.out⟩
  case round =>
    obtain ⟨k, hk, rfl, HK, q_HB_t, q_HSL, q_HW⟩ := hrel
    clear HB_t HSL HW
    clear HR
    have HB_t := Lib.hid q_HB_t
    have HSL := Lib.hid q_HSL
    have HW := Lib.hid q_HW
    clear q_HB_t q_HSL q_HW
    generalize hX : wr = X at *
    clear hX
    by_cases hlt : k < L.length
    · have HST := Lib.hid (HK.out.symm.trans (fstAt_drop t hlt))
      have HMK := Lib.hid (HM.out _ (List.getElem_mem hlt))
      obtain ⟨p, o, hp9, hcs⟩ := HSL.out.elem (f := ratL) (fun _ => rfl) (by omega : 0 < 2) (List.getElem?_eq_getElem hlt)
      generalize L[k] = E at HST HMK hcs
      have HOE := Lib.hid (out_fits HMK.out.1)
      have e0 := hcs 0 _ rfl
      have e1 := hcs 1 _ rfl
      rw [HOE.out.1] at e0
      rw [HOE.out.2.1] at e1
      rw [Nat.add_zero] at e0
      clear hcs HK
      subst hp9
      have hk0 : (0 : Int) ≤ (k : Int) := Int.natCast_nonneg _
      have hk1 : (k : Int) < (L.length : Int) := by omega
      go_upto_region 4 with (fail)
      refine wp_box1 fun w3' hsz hbz hC => ?_
      clear hsz
      have lt_t_e : w.heap.size < X.heap.size := HB_t.out.1
      have le_e : w.heap.size ≤ X.heap.size := HW.out.size
      replace HB_t := Lib.hid (HB_t.out.ext hbz)
      replace HSL := Lib.hid (HSL.out.ext hbz)
      replace HW := Lib.hid (ext_trans HW.out hbz)
      clear hbz e0 e1
      have HB_e := Lib.hid hC
      clear hC
      generalize X.heap.size = b_e at *
      obtain ⟨r, hr⟩ : ∃ r, t E = r := ⟨_, rfl⟩
      have HRR : Hid ((!(decide (E * q < 1))) = r) := Lib.hid ((HT9.out E).trans hr)
      have HST2 : Hid (res = if r = true then k + 1 else fstAt t (k + 1) (L.drop (k + 1))) := Lib.hid (by have h := HST.out; rw [hr] at h; exact h)
      clear HST hr
      have c_t_0 : w3'.cell? ⟨w.heap.size, 0, none⟩ = some (.int .i64 d) := HB_t.out.2 0
      have c_t_1 : w3'.cell? ⟨w.heap.size, 1, none⟩ = some (.int .i64 (kn : Int)) := HB_t.out.2 1
      have c_t_2 : w3'.cell? ⟨w.heap.size, 2, none⟩ = some (.string (showN q)) := HB_t.out.2 2
      have c_t_3 : w3'.cell? ⟨w.heap.size, 3, none⟩ = some (.string (showD q)) := HB_t.out.2 3
      have c_e_0 : w3'.cell? ⟨b_e, 0, none⟩ = some (.string (showN (E))) := HB_e.out.2 0
      have c_e_1 : w3'.cell? ⟨b_e, 1, none⟩ = some (.string (showD (E))) := HB_e.out.2 1
      go_wp2_with fail
      refine (enough_is E q r HRR.out HMK.out.1 HQ.out HMK.out.2 w3' (HT0.out.ext HW.out)).mono ?_
      rintro e w4' ⟨rfl, hbz⟩
      replace HB_t := Lib.hid (HB_t.out.ext hbz)
      replace HB_e := Lib.hid (HB_e.out.ext hbz)
      replace HSL := Lib.hid (HSL.out.ext hbz)
      replace HW := Lib.hid (ext_trans HW.out hbz)
      clear c_t_0 c_t_1 c_t_2 c_t_3 c_e_0 c_e_1
      clear hbz
      cases r with
      | true =>
        have HV : Hid (res = k + 1) := Lib.hid HST2.out
        have e9 : IntKind.i64.wrap ((k : Int) + 1) = (k : Int) + 1 := IntWalk.i64_in _ (by omega)
        go_wp2
        exact bodyPost_ret (v := .int .i64 ((k : Int) + 1)) (by simp [results, Tryz.results118, go_sem]) rfl ⟨by rw [HV.out]; rfl, HW.out⟩
      | false =>
        have HV : Hid (fstAt t (k + 1) (L.drop (k + 1)) = res) := Lib.hid HST2.out.symm
        go_wp2
        go_roundw
        case rel => exact ⟨k + 1, by omega, by go_num, HV, HB_t.out, HSL.out, HW.out⟩
        case measure => simp [intOf]; omega
    · have HV : Hid (res = 0) := Lib.hid (by rw [← HK.out, List.drop_of_length_le (by omega)]; rfl)
      go_wp2
      exact bodyPost_ret (v := .int .i64 0) (by simp [results, Tryz.results118, go_sem]) rfl ⟨by rw [HV.out]; rfl, HW.out⟩
set_option maxRecDepth 100000 in
set_option maxHeartbeats 8000000 in
theorem refCourse_at (d k : Int) (n m : ByteArray) (hn : n.size ≤ maxLen) (hm : m.size ≤ maxLen) (l : List Tri) (a : Option Addr) (c : Nat) (w : World) (hs : Sl w (.slice a l.length c) l.length (l.flatMap triL)) (ht : Tab w) :
    Calls Tryz.prog 38 #[.agg #[.int .i64 d, .int .i64 k, .string n, .string m], .slice a l.length c] w (CrsPost w (crsV d k n m l) (decF d k n m l)) := by
  have HS := Lib.hid hs
  clear hs
  go_enter Tryz.func38, Tryz.ntmps38
  have HT0 := Lib.hid ht
  clear ht
  go_upto_region 1 with (fail)
  refine wp_box1 fun w1' hsz hbW hA0 => ?_
  clear hsz
  have HB_t := Lib.hid hA0
  have HW := Lib.hid hbW
  clear hbW hA0
  have c_t_0 : w1'.cell? ⟨w.heap.size, 0, none⟩ = some (.int .i64 d) := HB_t.out.2 0
  have c_t_1 : w1'.cell? ⟨w.heap.size, 1, none⟩ = some (.int .i64 k) := HB_t.out.2 1
  have c_t_2 : w1'.cell? ⟨w.heap.size, 2, none⟩ = some (.string n) := HB_t.out.2 2
  have c_t_3 : w1'.cell? ⟨w.heap.size, 3, none⟩ = some (.string m) := HB_t.out.2 3
  go_wp2_with fail
  refine (checkTest_at d k n m hn hm w1' (HT0.out.ext HW.out)).mono ?_
  rintro e w2' ⟨rfl, hbz⟩
  replace HB_t := Lib.hid (HB_t.out.ext hbz)
  replace HW := Lib.hid (ext_trans HW.out hbz)
  clear c_t_0 c_t_1 c_t_2 c_t_3
  clear hbz
  by_cases hf : testF d k n m = 0
  · have hne : (testF d k n m != 0) = false := by simp [hf]
    have HD : Hid (decF d k n m l = pairF l) := Lib.hid (by unfold decF; rw [if_pos hf])
    have HTF := Lib.hid hf
    clear hf
    go_wp2_with fail
    refine (refPairs_at l a c w2' (HS.out.ext HW.out)).mono ?_
    rintro e w3' ⟨a1, c1, rfl, hs1, hbz⟩
    have HS1 := Lib.hid hs1
    clear hs1
    replace HB_t := Lib.hid (HB_t.out.ext hbz)
    replace HW := Lib.hid (ext_trans HW.out hbz)
    clear hbz
    by_cases hp : pairF l = 0
    · obtain ⟨d1, d3, k1, k5, hmi⟩ := test_ok HTF.out
      obtain ⟨q, hq, hrq, rfl, rfl, h0, h1q, hlq⟩ := miss_parts hmi
      obtain ⟨kn, rfl⟩ : ∃ x : Nat, k = (x : Int) := ⟨k.toNat, by omega⟩
      obtain ⟨e1, e2⟩ := pair_ok hp
      have HV : Hid (crsV d (kn : Int) (showN q) (showD q) l = evTrail (evR d kn) 0 0 (pairZ l)) := Lib.hid (by unfold crsV; rw [if_pos (by rw [HD.out]; exact hp)]; exact trail_congr (fun u v => evQ_real d d1 d3 kn (by omega) u v) _ _ _)
      have hne2 : (pairF l != 0) = false := by simp [hp]
      have HP := Lib.hid hp
      have HS2 : Hid (Sl w3' (.slice a1 (pairZ l).length c1) (pairZ l).length (ics (pairZ l))) := Lib.hid (by have h := HS1.out; rw [e1] at h; exact h)
      rw [e1]
      clear hp HS1 e1
      have hk1 : 1 ≤ kn := by omega
      have hk5 : kn ≤ 5 := by omega
      clear hmi hrq k1 k5 h1q hn hm
      have c_t_0 : w3'.cell? ⟨w.heap.size, 0, none⟩ = some (.int .i64 d) := HB_t.out.2 0
      have c_t_1 : w3'.cell? ⟨w.heap.size, 1, none⟩ = some (.int .i64 (kn : Int)) := HB_t.out.2 1
      have c_t_2 : w3'.cell? ⟨w.heap.size, 2, none⟩ = some (.string (showN q)) := HB_t.out.2 2
      have c_t_3 : w3'.cell? ⟨w.heap.size, 3, none⟩ = some (.string (showD q)) := HB_t.out.2 3
      go_wp2_with fail
      refine (course_at d d1 d3 kn hk1 hk5 (showN q) (showD q) (pairZ l) e2 a1 c1 w3' HS2.out (HT0.out.ext HW.out)).mono ?_
      rintro e w4' ⟨a2, c2, rfl, hs2, hbz⟩
      have HS3 := Lib.hid hs2
      clear hs2
      replace HB_t := Lib.hid (HB_t.out.ext hbz)
      replace HW := Lib.hid (ext_trans HW.out hbz)
      clear c_t_0 c_t_1 c_t_2 c_t_3
      clear hbz
      go_wp2
      exact bodyPost_ret (v := .tuple #[.slice a2 (evTrail (evR d kn) 0 0 (pairZ l)).length c2, .int .i64 0]) (by simp [results, Tryz.results38, go_sem]) rfl ⟨a2, c2, by rw [HV.out, HD.out, HP.out], by rw [HV.out]; exact HS3.out, HW.out⟩
    · have HZ : Hid (crsV d k n m l = []) := Lib.hid (by unfold crsV; rw [if_neg (by rw [HD.out]; exact hp)])
      have hne2 : (pairF l != 0) = true := by simp [hp]
      clear hp
      go_wp2
      exact bodyPost_ret (v := .tuple #[.slice none 0 0, .int .i64 (pairF l)]) (by simp [results, Tryz.results38, go_sem]) rfl ⟨none, 0, by rw [HZ.out, HD.out]; rfl, by rw [HZ.out]; exact Sl.nil _, HW.out⟩
  · have HD : Hid (decF d k n m l = testF d k n m) := Lib.hid (by unfold decF; rw [if_neg hf])
    have HZ : Hid (crsV d k n m l = []) := Lib.hid (by unfold crsV; rw [if_neg (by rw [HD.out]; exact hf)])
    have hne : (testF d k n m != 0) = true := by simp [hf]
    clear hf
    go_wp2
    exact bodyPost_ret (v := .tuple #[.slice none 0 0, .int .i64 (testF d k n m)]) (by simp [results, Tryz.results38, go_sem]) rfl ⟨none, 0, by rw [HZ.out, HD.out]; rfl, by rw [HZ.out]; exact Sl.nil _, HW.out⟩
set_option maxRecDepth 100000 in
set_option maxHeartbeats 8000000 in
theorem refDecided_at (d k : Int) (n m : ByteArray) (hn : n.size ≤ maxLen) (hm : m.size ≤ maxLen) (l : List Tri) (a : Option Addr) (c : Nat) (w : World) (hs : Sl w (.slice a l.length c) l.length (l.flatMap triL)) (ht : Tab w) :
    Calls Tryz.prog 41 #[.agg #[.int .i64 d, .int .i64 k, .string n, .string m], .slice a l.length c] w (fun e w' => e = .returned (.tuple #[.int .i64 (decV d k n m l), .int .i64 (decF d k n m l)]) ∧ Below w.heap.size w w') := by
  have HS := Lib.hid hs
  clear hs
  go_enter Tryz.func41, Tryz.ntmps41
  have HT0 := Lib.hid ht
  clear ht
  go_upto_region 1 with (fail)
  refine wp_box1 fun w1' hsz hbW hA0 => ?_
  clear hsz
  have HB_t := Lib.hid hA0
  have HW := Lib.hid hbW
  clear hbW hA0
  have c_t_0 : w1'.cell? ⟨w.heap.size, 0, none⟩ = some (.int .i64 d) := HB_t.out.2 0
  have c_t_1 : w1'.cell? ⟨w.heap.size, 1, none⟩ = some (.int .i64 k) := HB_t.out.2 1
  have c_t_2 : w1'.cell? ⟨w.heap.size, 2, none⟩ = some (.string n) := HB_t.out.2 2
  have c_t_3 : w1'.cell? ⟨w.heap.size, 3, none⟩ = some (.string m) := HB_t.out.2 3
  go_wp2_with fail
  refine (checkTest_at d k n m hn hm w1' (HT0.out.ext HW.out)).mono ?_
  rintro e w2' ⟨rfl, hbz⟩
  replace HB_t := Lib.hid (HB_t.out.ext hbz)
  replace HW := Lib.hid (ext_trans HW.out hbz)
  clear c_t_0 c_t_1 c_t_2 c_t_3
  clear hbz
  by_cases hf : testF d k n m = 0
  · have hne : (testF d k n m != 0) = false := by simp [hf]
    have HD : Hid (decF d k n m l = pairF l) := Lib.hid (by unfold decF; rw [if_pos hf])
    have HTF := Lib.hid hf
    clear hf
    go_wp2_with fail
    refine (refPairs_at l a c w2' (HS.out.ext HW.out)).mono ?_
    rintro e w3' ⟨a1, c1, rfl, hs1, hbz⟩
    have HS1 := Lib.hid hs1
    clear hs1
    replace HB_t := Lib.hid (HB_t.out.ext hbz)
    replace HW := Lib.hid (ext_trans HW.out hbz)
    clear hbz
    by_cases hp : pairF l = 0
    · obtain ⟨d1, d3, k1, k5, hmi⟩ := test_ok HTF.out
      obtain ⟨q, hq, hrq, rfl, rfl, h0, h1q, hlq⟩ := miss_parts hmi
      obtain ⟨kn, rfl⟩ : ∃ x : Nat, k = (x : Int) := ⟨k.toNat, by omega⟩
      obtain ⟨e1, e2⟩ := pair_ok hp
      have HV : Hid (decV d (kn : Int) (showN q) (showD q) l = decAt (decB d kn q⁻¹) 0 0 0 (pairZ l)) := Lib.hid (by unfold decV; rw [if_pos (by rw [HD.out]; exact hp), hrq]; rfl)
      have hne2 : (pairF l != 0) = false := by simp [hp]
      have HP := Lib.hid hp
      have HS2 : Hid (Sl w3' (.slice a1 (pairZ l).length c1) (pairZ l).length (ics (pairZ l))) := Lib.hid (by have h := HS1.out; rw [e1] at h; exact h)
      rw [e1]
      clear hp HS1 e1
      have hk1 : 1 ≤ kn := by omega
      have hk5 : kn ≤ 5 := by omega
      clear hmi hrq k1 k5 h1q hn hm
      have c_t_0 : w3'.cell? ⟨w.heap.size, 0, none⟩ = some (.int .i64 d) := HB_t.out.2 0
      have c_t_1 : w3'.cell? ⟨w.heap.size, 1, none⟩ = some (.int .i64 (kn : Int)) := HB_t.out.2 1
      have c_t_2 : w3'.cell? ⟨w.heap.size, 2, none⟩ = some (.string (showN q)) := HB_t.out.2 2
      have c_t_3 : w3'.cell? ⟨w.heap.size, 3, none⟩ = some (.string (showD q)) := HB_t.out.2 3
      go_wp2_with fail
      refine (decided_at d d1 d3 kn hk1 hk5 q hq h0 hlq (pairZ l) e2 a1 c1 w3' HS2.out (HT0.out.ext HW.out)).mono ?_
      rintro e w4' ⟨rfl, hbz⟩
      replace HB_t := Lib.hid (HB_t.out.ext hbz)
      replace HW := Lib.hid (ext_trans HW.out hbz)
      clear c_t_0 c_t_1 c_t_2 c_t_3
      clear hbz
      go_wp2
      exact bodyPost_ret (v := .tuple #[.int .i64 ((decAt (decB d kn q⁻¹) 0 0 0 (pairZ l) : Nat) : Int), .int .i64 0]) (by simp [results, Tryz.results41, go_sem]) rfl ⟨by rw [HV.out, HD.out, HP.out], HW.out⟩
    · have HZ : Hid (decV d k n m l = 0) := Lib.hid (by unfold decV; rw [if_neg (by rw [HD.out]; exact hp)])
      have hne2 : (pairF l != 0) = true := by simp [hp]
      clear hp
      go_wp2
      exact bodyPost_ret (v := .tuple #[.int .i64 0, .int .i64 (pairF l)]) (by simp [results, Tryz.results41, go_sem]) rfl ⟨by rw [HZ.out, HD.out]; rfl, HW.out⟩
  · have HD : Hid (decF d k n m l = testF d k n m) := Lib.hid (by unfold decF; rw [if_neg hf])
    have HZ : Hid (decV d k n m l = 0) := Lib.hid (by unfold decV; rw [if_neg (by rw [HD.out]; exact hf)])
    have hne : (testF d k n m != 0) = true := by simp [hf]
    clear hf
    go_wp2
    exact bodyPost_ret (v := .tuple #[.int .i64 0, .int .i64 (testF d k n m)]) (by simp [results, Tryz.results41, go_sem]) rfl ⟨by rw [HZ.out, HD.out]; rfl, HW.out⟩
end Nt
end Go.Proofs.YtmnmepbljegjeaaGreatDoor
