/- TrimPrefix of package strings at "-"; long, whole and readMiss of package decide. -/
import Derived.Test.YtkinapdfmgfdfaaInt2
namespace Go.Proofs.Ytkinapdfmgfdfaa
open Go.RowKit
namespace Nm
theorem miss_small {n d : ByteArray} (h : rF n d = 0) : wlen (rQ n d).num.natAbs ≤ 4000 ∧ wlen (rQ n d).den ≤ 4000 := by
  obtain ⟨_, h2, h3, h4, h5, h6, h7, _⟩ := rQ_facts h
  have e1 : (cutS n).data.toList.length = (cutS n).size := Array.length_toList
  have e2 : d.data.toList.length = d.size := Array.length_toList
  refine ⟨?_, ?_⟩
  · rw [h2, sgn_natAbs]; have := wlen_dec (decv_lt (whole_whl h4).1); omega
  · rw [h3]; have := wlen_dec (decv_lt (whole_whl h5).1); omega
set_option maxHeartbeats 2000000 in
theorem liteTrim_at (s : ByteArray) (hs : s.size ≤ maxLen) (w : World) : Calls Try.prog 65 #[.string s, .string ⟨#[45]⟩] w fun e w' => e = .returned (.string (cutS s)) ∧ w = w' := by
  have hs' := hs
  unfold maxLen at hs'
  by_cases h : cutB s.data.toList = true
  · have h1 : 1 ≤ s.size := by
      rcases Nat.lt_or_ge s.size 1 with h2 | h2
      · have := cut_none s h2; rw [h] at this; cases this
      · exact h2
    have HE : Hid (s.extract 1 s.size = cutS s) := by
      have : s.extract 1 s.size = cutS s := by unfold cutS; rw [if_pos h]
      exact this
    go_enter Try.func65, Try.ntmps65
    go_wp2_with fail
    refine (hasPrefix_at s hs w).mono ?_
    rw [h]
    rintro e w' ⟨rfl, rfl⟩
    clear h
    go_wp2
    go_ret
    refine ⟨?_, rfl⟩
    rw [← HE.out]; rfl
  · have hf : cutB s.data.toList = false := by simpa using h
    have HE : Hid (s = cutS s) := by
      have : s = cutS s := by unfold cutS; rw [if_neg h]
      exact this
    go_enter Try.func65, Try.ntmps65
    go_wp2_with fail
    refine (hasPrefix_at s hs w).mono ?_
    rw [hf]
    rintro e w' ⟨rfl, rfl⟩
    clear h hf
    go_wp2
    go_ret
    refine ⟨?_, rfl⟩
    rw [← HE.out]; rfl
theorem trimPrefix_at (s : ByteArray) (hs : s.size ≤ maxLen) (w : World) : Calls Try.prog 54 #[.string s, .string ⟨#[45]⟩] w fun e w' => e = .returned (.string (cutS s)) ∧ w = w' := by
  go_enter Try.func54, Try.ntmps54
  go_wp2_with fail
  refine (liteTrim_at s hs w).mono ?_
  rintro e w' ⟨rfl, rfl⟩
  go_wp2
  go_ret
  exact ⟨rfl, rfl⟩
def longB (n d : ByteArray) : Bool := decide (100 < (cutS n).size) || decide (100 < d.size)
def BPost (w : World) (b : Bool) (e : Ending) (w' : World) : Prop := e = .returned (.bool b) ∧ Below w.heap.size w w'
set_option maxHeartbeats 2000000 in
theorem long_at (n d : ByteArray) (hn : n.size ≤ maxLen) (hd : d.size ≤ maxLen) (w : World) : Calls Try.prog 44 #[.agg #[.string n, .string d]] w (BPost w (longB n d)) := by
  have hc := cutS_size n
  have hn' := hn
  have hd' := hd
  unfold maxLen at hn' hd'
  by_cases h1 : 100 < (cutS n).size
  · have hb : longB n d = true := by simp [longB, h1]
    rw [hb]
    clear hb
    go_enter Try.func44, Try.ntmps44
    go_wp2_with fail
    refine (trimPrefix_at n hn _).mono ?_
    rintro e w' ⟨rfl, rfl⟩
    go_wp2
    go_ret
    exact ⟨rfl, by go_grown⟩
  · by_cases h2 : 100 < d.size
    · have hb : longB n d = true := by simp [longB, h2]
      have h3 : (decide ((100 : Int) < ((cutS n).size : Int))) = false := decide_eq_false (by omega)
      have h4 : (decide (100 < (cutS n).size)) = false := decide_eq_false (by omega)
      have h5 : (decide ((100 : Int) < (d.size : Int))) = true := decide_eq_true (by omega)
      rw [hb]
      clear hb h1
      go_enter Try.func44, Try.ntmps44
      go_wp2_with fail
      refine (trimPrefix_at n hn _).mono ?_
      rintro e w' ⟨rfl, rfl⟩
      go_wp2
      go_ret
      exact ⟨rfl, by go_grown⟩
    · have hb : longB n d = false := by simp [longB]; omega
      have h3 : (decide ((100 : Int) < ((cutS n).size : Int))) = false := decide_eq_false (by omega)
      have h4 : (decide (100 < (cutS n).size)) = false := decide_eq_false (by omega)
      have h5 : (decide ((100 : Int) < (d.size : Int))) = false := decide_eq_false (by omega)
      have h6 : (decide (100 < d.size)) = false := decide_eq_false (by omega)
      rw [hb]
      clear hb h1 h2
      go_enter Try.func44, Try.ntmps44
      go_wp2_with fail
      refine (trimPrefix_at n hn _).mono ?_
      rintro e w' ⟨rfl, rfl⟩
      go_wp2
      go_ret
      exact ⟨rfl, by go_grown⟩
theorem whole_at (n : Int) (h1 : -9223372036854775808 ≤ n) (h2 : n ≤ 9223372036854775807) (w : World) : Calls Try.prog 30 #[.int .i64 n] w (XPost w (n : Rat)) := by
  go_enter Try.func30, Try.ntmps30
  go_upto_region 1 with (fail)
  refine wp_box1r fun W hsz hbW hC hF => ?_
  clear hsz
  go_wp2_with fail
  refine (xratInt_at n h1 h2 _).mono ?_
  rintro e w2 ⟨v, rfl, hx, hb⟩
  obtain ⟨v1, v2, rfl, hn1', hn2'⟩ := hx
  have hn1 : N w2 v1 n.natAbs := hn1'
  have hn2 : N w2 v2 1 := hn2'
  obtain ⟨p1, c5, rfl, _⟩ := hn1.open_
  obtain ⟨p2, c6, rfl, _⟩ := hn2.open_
  clear hn1' hn2'
  rw [show decide ((n : Rat).num < 0) = decide (n < 0) from rfl]
  have hC3 := hC.ext hb
  have hF3 := hF.ext hC hb
  have hbw := ext_trans hbW hb
  have hle : w.heap.size ≤ w.heap.size := Nat.le_refl _
  have g0 := hF3 0
  have g1 := hF3 1
  have g2 := hF3 2
  obtain ⟨r0, r1, r2⟩ := boxX hC3
  obtain ⟨k1, k2, k3, z0, z1, z2⟩ := res3 (decide (n < 0)) hC3 hn1 hn2 hbw hle
  have HK := Lib.hid (And.intro k1 (And.intro k2 k3))
  clear k1 k2 k3
  go_wp2
  exact bodyPost_ret (v := .agg #[.bool (decide (n < 0)), .slice p1 (digs n.natAbs).length c5, .slice p2 (digs 1).length c6]) (by simp [results, Try.results30, go_sem, z0, z1, z2]) rfl ⟨_, rfl, ⟨_, _, rfl, HK.out.1, HK.out.2.1⟩, HK.out.2.2⟩
end Nm
end Go.Proofs.Ytkinapdfmgfdfaa
