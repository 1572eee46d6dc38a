/- shifted, lowered of package value. takeAway, giveBack of package value. -/
import Derived.Test.YtemenlcigengeaaGreatDoorTq05
namespace Go.Proofs.YtemenlcigengeaaGreatDoor
open Go.RowKit
namespace Nm
theorem pow_cast (n : Nat) : (2 : Int) ^ n = ((2 ^ n : Nat) : Int) := by rw [Int.natCast_pow]; rfl
theorem pow_split {n : Nat} (hn : n < 32) : 2 ^ (32 - n) * 2 ^ n = 4294967296 := by rw [← Nat.pow_add, show 32 - n + n = 32 by omega]
/-- a word shifted to the left, with what came from the right -/
theorem shift_word {X n cr : Nat} (hX : X < 4294967296) (hn : n < 32) (hc : cr < 2 ^ n) : ∃ z h : Nat, bits BinOp.or IntKind.u32 ((X : Int) * 2 ^ n % 4294967296) (cr : Int) = (z : Int) ∧ (X : Int) / 2 ^ (32 - n) % 4294967296 = (h : Int) ∧ z < 4294967296 ∧ h < 2 ^ n ∧ h < 4294967296 ∧ z + 4294967296 * h = X * 2 ^ n + cr := by
  have hE := pow_split hn
  have hD : (2 ^ n : Nat) ≤ 4294967296 := by rw [← hE]; exact Nat.le_mul_of_pos_left _ (Nat.two_pow_pos _)
  have h1 : X * 2 ^ n % 4294967296 = 2 ^ n * (X % 2 ^ (32 - n)) := by
    conv => lhs; rw [← hE]
    rw [Nat.mul_mod_mul_right, Nat.mul_comm]
  have h2 : X / 2 ^ (32 - n) < 2 ^ n := by rw [Nat.div_lt_iff_lt_mul (Nat.two_pow_pos _), Nat.mul_comm, hE]; exact hX
  have h3 : 2 ^ n * (X % 2 ^ (32 - n)) + cr < 4294967296 := by
    have hm := Nat.mod_lt X (Nat.two_pow_pos (32 - n))
    have : 2 ^ n * (X % 2 ^ (32 - n) + 1) ≤ 2 ^ n * 2 ^ (32 - n) := Nat.mul_le_mul_left _ hm
    rw [Nat.mul_comm (2 ^ n) (2 ^ (32 - n)), hE, Nat.mul_add, Nat.mul_one] at this
    omega
  refine ⟨2 ^ n * (X % 2 ^ (32 - n)) + cr, X / 2 ^ (32 - n), ?_, ?_, h3, h2, by omega, ?_⟩
  · have e : ((X : Int) * 2 ^ n % 4294967296) = ((2 ^ n * (X % 2 ^ (32 - n)) : Nat) : Int) := by
      rw [← h1, pow_cast]; rfl
    rw [e, u32_or_nat _ _ (by omega) (by omega), ← Nat.two_pow_add_eq_or_of_lt hc]
  · rw [pow_cast]
    have : ((X : Int) / ((2 ^ (32 - n) : Nat) : Int) % 4294967296) = ((X / 2 ^ (32 - n) % 4294967296 : Nat) : Int) := rfl
    rw [this, Nat.mod_eq_of_lt (by omega)]
  · have := Nat.div_add_mod X (2 ^ (32 - n))
    have e : X * 2 ^ n = 2 ^ (32 - n) * 2 ^ n * (X / 2 ^ (32 - n)) + 2 ^ n * (X % 2 ^ (32 - n)) := by
      conv => lhs; rw [← this]
      rw [Nat.add_mul]; congr 1 <;> ac_rfl
    rw [hE] at e; omega
theorem shift_step {P V A c z h X D : Nat} (hV : V + P * c = A * D) (hz : z + 4294967296 * h = X * D + c) : (V + P * z) + P * B * h = (A + P * X) * D := by
  have e : P * (z + 4294967296 * h) = P * (X * D + c) := by rw [hz]
  rw [Nat.mul_add, Nat.mul_add] at e
  rw [B_eq, Nat.add_mul, Nat.mul_assoc, Nat.mul_assoc P X D]
  omega
/-- a word shifted to the right, with what comes from the left -/
theorem low_word {X Y n : Nat} (hX : X < 4294967296) (hY : Y < 4294967296) (hn : n < 32) : ∃ z : Nat, bits BinOp.or IntKind.u64 (X : Int) ((Y : Int) * 4294967296) / 2 ^ n % 4294967296 = (z : Int) ∧ z < 4294967296 ∧ z * 2 ^ n + X % 2 ^ n = X + B * (Y % 2 ^ n) := by
  have hE := pow_split hn
  have hp := Nat.two_pow_pos n
  have hor : bits BinOp.or IntKind.u64 (X : Int) ((Y : Int) * 4294967296) = ((X + 4294967296 * Y : Nat) : Int) := by
    have h := u64_or_nat X (4294967296 * Y) (by omega) (by omega)
    have h2 := Nat.two_pow_add_eq_or_of_lt (i := 32) (b := X) (by simpa using hX) Y
    rw [show (2 : Nat) ^ 32 = 4294967296 by decide] at h2
    rw [Nat.or_comm, ← h2] at h
    rw [show ((Y : Int) * 4294967296) = ((4294967296 * Y : Nat) : Int) by omega, h]; omega
  refine ⟨(X + 4294967296 * Y) / 2 ^ n % 4294967296, by rw [hor, pow_cast]; rfl, Nat.mod_lt _ (by decide), ?_⟩
  have h1 : (X + 4294967296 * Y) / 2 ^ n = X / 2 ^ n + 2 ^ (32 - n) * Y := by
    conv => lhs; rw [← hE]
    rw [show 2 ^ (32 - n) * 2 ^ n * Y = 2 ^ n * (2 ^ (32 - n) * Y) by ac_rfl, Nat.add_mul_div_left _ _ hp]
  have h2 : X / 2 ^ n < 2 ^ (32 - n) := by rw [Nat.div_lt_iff_lt_mul hp, hE]; exact hX
  have h3 : X / 2 ^ n + 2 ^ (32 - n) * (Y % 2 ^ n) < 4294967296 := by
    have : 2 ^ (32 - n) * (Y % 2 ^ n + 1) ≤ 2 ^ (32 - n) * 2 ^ n := Nat.mul_le_mul_left _ (Nat.mod_lt _ hp)
    rw [hE, Nat.mul_add, Nat.mul_one] at this
    omega
  have h4 : (X / 2 ^ n + 2 ^ (32 - n) * Y) % 4294967296 = X / 2 ^ n + 2 ^ (32 - n) * (Y % 2 ^ n) := by
    conv => lhs; rw [← Nat.div_add_mod Y (2 ^ n)]
    rw [Nat.mul_add, ← Nat.mul_assoc, hE, show X / 2 ^ n + (4294967296 * (Y / 2 ^ n) + 2 ^ (32 - n) * (Y % 2 ^ n)) = (X / 2 ^ n + 2 ^ (32 - n) * (Y % 2 ^ n)) + 4294967296 * (Y / 2 ^ n) by omega, Nat.add_mul_mod_self_left, Nat.mod_eq_of_lt h3]
  rw [h1, h4, Nat.add_mul, show 2 ^ (32 - n) * (Y % 2 ^ n) * 2 ^ n = 2 ^ (32 - n) * 2 ^ n * (Y % 2 ^ n) by ac_rfl, hE, B_eq]
  have := Nat.div_add_mod' X (2 ^ n)
  omega
theorem low_word0 {X n : Nat} (hX : X < 4294967296) (_hn : n < 32) : ∃ z : Nat, (X : Int) / 2 ^ n % 4294967296 = (z : Int) ∧ z < 4294967296 ∧ z * 2 ^ n + X % 2 ^ n = X + B * (0 % 2 ^ n) := by
  have hle := Nat.div_le_self X (2 ^ n)
  refine ⟨X / 2 ^ n, ?_, by omega, ?_⟩
  · rw [pow_cast]
    have : ((X : Int) / ((2 ^ n : Nat) : Int) % 4294967296) = ((X / 2 ^ n % 4294967296 : Nat) : Int) := rfl
    rw [this, Nat.mod_eq_of_lt (by omega)]
  · have := Nat.div_add_mod' X (2 ^ n)
    simp; omega
theorem low_step {P V A r0 z X m D R : Nat} (h : V * D + r0 = A + P * m) (hz : z * D + m = X + B * R) : (V + P * z) * D + r0 = (A + P * X) + P * B * R := by
  have e : P * (z * D + m) = P * (X + B * R) := by rw [hz]
  rw [Nat.mul_add, Nat.mul_add, ← Nat.mul_assoc, ← Nat.mul_assoc] at e
  rw [Nat.add_mul]
  omega
/-- a row of the call's own -/
def RowPost (w : World) (n : Nat) (P : List Nat → Prop) (e : Ending) (w' : World) : Prop := ∃ b l, e = .returned (.slice (some ⟨b, 0, none⟩) n n) ∧ w.heap.size ≤ b ∧ l.length = n ∧ Dg l ∧ P l ∧ Own w' b l ∧ Below w.heap.size w w'
set_option maxHeartbeats 8000000 in
theorem shifted_at (x n : Nat) (v : Value) (w : World) (hx : N w v x) (hxl : wlen x ≤ 1000000000) (hn : n < 32) : Calls Tryz.prog 125 #[v, .int .i64 (n : Int)] w (RowPost w (wlen x + 1) (fun l => val l = x * 2 ^ n)) := by
  obtain ⟨a, c, rfl, s1⟩ := hx.open_
  obtain ⟨p1, p2⟩ := sl_caps s1
  have HX := Lib.hid (digs_dg x)
  unfold wlen at hxl ⊢
  clear hx
  go_enter Tryz.func125, Tryz.ntmps125
  go_wp2_with (refine wpList_make_words rfl _ _ rfl ((digs x).length + 1) rfl rfl ?_ ?_ ?_; rotate_left 2; intro W hO hB hsz)
  case refine_1 => go_num
  case refine_2 => omega
  clear hsz
  have HZ : Hid (val ((List.replicate ((digs x).length + 1) 0).take 0) + B ^ 0 * 0 = val ((digs x).take 0) * 2 ^ n) := by
    have : val ((List.replicate ((digs x).length + 1) 0).take 0) + B ^ 0 * 0 = val ((digs x).take 0) * 2 ^ n := by simp [val]
    exact this
  go_loopw [6, 15] (fun cv iv wr => ∃ (k cr : Nat) (out : List Nat), k ≤ (digs x).length ∧ iv = .int .i64 k ∧ cv = .int .u32 cr ∧ Hid (cr < 2 ^ n) ∧ Hid (out.length = (digs x).length + 1) ∧ Hid (Dg out) ∧ Hid (val (out.take k) + B ^ k * cr = val ((digs x).take k) * 2 ^ n) ∧ Own wr w.heap.size out ∧ Below w.heap.size w wr) (fun _ iv _ => (digs x).length - (intOf iv).toNat)
  case atStart => exact ⟨0, 0, List.replicate ((digs x).length + 1) 0, by omega, rfl, rfl, Nat.two_pow_pos n, by have := @List.length_replicate Nat ((digs x).length + 1) 0; exact this, Dg.zeros _, HZ, hO, hB⟩
  case round =>
    obtain ⟨k, cr, out, hk, rfl, rfl, Hcr, HL, HDo, HV, hOk, hBk⟩ := hrel
    have hko : k < out.length := by have := HL.out; omega
    have o0 := hOk.cell hko
    have o1 := hOk.frozen k
    by_cases hlt : k < (digs x).length
    · obtain ⟨b, o, rfl, e0⟩ := sl_addr (s1.ext hBk) (wcs_get hlt)
      have hX := HX.out.get hlt
      have HV1 := Lib.hid (val_take_succ (digs x) k hlt)
      generalize (digs x)[k] = X at *
      rw [B_eq] at hX
      obtain ⟨z, h, t1, t2, hz, hh, hh2, hzh⟩ := shift_word hX hn Hcr.out
      have HR : Hid (val ((out.set k z).take (k + 1)) + B ^ (k + 1) * h = val ((digs x).take (k + 1)) * 2 ^ n) := by
        have : val ((out.set k z).take (k + 1)) + B ^ (k + 1) * h = val ((digs x).take (k + 1)) * 2 ^ n := by
          rw [val_take_set out k _ hko, HV1.out, Nat.pow_succ]
          exact shift_step HV.out hzh
        exact this
      have HH := Lib.hid hh
      clear HV HV1 hzh hh
      go_wp2
      go_roundw
      case rel => exact ⟨k + 1, h, out.set k z, by omega, by go_num, by go_num, HH, Hid.len_set HL _ _, Hid.dg_set HDo _ hz, HR, hOk.set' hko _ (by omega), hBk.setCell (Nat.le_refl _) _⟩
      case measure => simp [intOf]; omega
    · obtain rfl : k = (digs x).length := by omega
      have HC2 : Hid (cr < B) := by
        have h1 := Hcr.out
        have h2 : (2 ^ n : Nat) ≤ 4294967296 := by rw [← pow_split hn]; exact Nat.le_mul_of_pos_left _ (Nat.two_pow_pos _)
        have : cr < B := by rw [B_eq]; omega
        exact this
      have hcr : cr < 4294967296 := HC2.out
      have HF : Hid (val (out.set (digs x).length cr) = x * 2 ^ n) := by
        have h1 := val_take_set out (digs x).length cr hko
        rw [List.take_of_length_le (by rw [List.length_set, HL.out]; omega), HV.out, List.take_length, val_digs] at h1
        exact h1
      have HL2 := Hid.len_set HL (digs x).length cr
      have HD2 := Hid.dg_set HDo (digs x).length HC2.out
      have hO2 := hOk.set hko cr
      have hB2 := hBk.setCell (Nat.le_refl _) (p := ⟨w.heap.size, (digs x).length, none⟩) (.int .u32 (cr : Int))
      clear HL HDo HV hOk hBk
      go_wp2
      go_ret
      exact ⟨_, _, rfl, Nat.le_refl _, HL2.out, HD2.out, HF.out, hO2, hB2⟩
set_option maxHeartbeats 8000000 in
theorem lowered_at (x n : Nat) (v : Value) (w : World) (hx : N w v x) (hxl : wlen x ≤ 1000000000) (hn : n < 32) : Calls Tryz.prog 128 #[v, .int .i64 (n : Int)] w (NPost w (x / 2 ^ n)) := by
  obtain ⟨a, c, rfl, s1⟩ := hx.open_
  obtain ⟨p1, p2⟩ := sl_caps s1
  have HX := Lib.hid (digs_dg x)
  unfold wlen at hxl
  clear hx
  go_enter Tryz.func128, Tryz.ntmps128
  go_wp2_with (refine wpList_make_words rfl _ _ rfl (digs x).length rfl rfl ?_ ?_ ?_; rotate_left 2; intro W hO hB hsz)
  case refine_1 => go_num
  case refine_2 => omega
  clear hsz
  have HZ : Hid (val ((List.replicate (digs x).length 0).take 0) * 2 ^ n + wd (digs x) 0 % 2 ^ n = val ((digs x).take 0) + B ^ 0 * (wd (digs x) 0 % 2 ^ n)) := by
    have : val ((List.replicate (digs x).length 0).take 0) * 2 ^ n + wd (digs x) 0 % 2 ^ n = val ((digs x).take 0) + B ^ 0 * (wd (digs x) 0 % 2 ^ n) := by simp [val]
    exact this
  go_loopw [13] (fun iv wr => ∃ (k : Nat) (out : List Nat), k ≤ (digs x).length ∧ iv = .int .i64 k ∧ Hid (out.length = (digs x).length) ∧ Hid (Dg out) ∧ Hid (val (out.take k) * 2 ^ n + wd (digs x) 0 % 2 ^ n = val ((digs x).take k) + B ^ k * (wd (digs x) k % 2 ^ n)) ∧ Own wr w.heap.size out ∧ Below w.heap.size w wr) (fun iv _ => (digs x).length - (intOf iv).toNat)
  case atStart => exact ⟨0, List.replicate (digs x).length 0, by omega, rfl, by have := @List.length_replicate Nat (digs x).length 0; exact this, Dg.zeros _, HZ, hO, hB⟩
  case round =>
    obtain ⟨k, out, hk, rfl, HL, HDo, HV, hOk, hBk⟩ := hrel
    by_cases hlt : k < (digs x).length
    · have hko : k < out.length := by have := HL.out; omega
      have o0 := hOk.cell hko
      have o1 := hOk.frozen k
      obtain ⟨b, o, rfl, e0⟩ := sl_addr (s1.ext hBk) (wcs_get hlt)
      have hX := HX.out.get hlt
      have HV1 := Lib.hid (val_take_wd (digs x) k)
      have HW := Lib.hid (wd_get hlt)
      by_cases hlt2 : k + 1 < (digs x).length
      · obtain ⟨b', o', hbo, f0⟩ := sl_addr (s1.ext hBk) (wcs_get hlt2)
        cases hbo
        have hY := HX.out.get hlt2
        have HW2 := Lib.hid (wd_get hlt2)
        generalize (digs x)[k] = X at *
        generalize (digs x)[k + 1] = Y at *
        rw [B_eq] at hX hY
        obtain ⟨z, t1, hz, hzz⟩ := low_word hX hY hn
        have HR : Hid (val ((out.set k z).take (k + 1)) * 2 ^ n + wd (digs x) 0 % 2 ^ n = val ((digs x).take (k + 1)) + B ^ (k + 1) * (wd (digs x) (k + 1) % 2 ^ n)) := by
          have : val ((out.set k z).take (k + 1)) * 2 ^ n + wd (digs x) 0 % 2 ^ n = val ((digs x).take (k + 1)) + B ^ (k + 1) * (wd (digs x) (k + 1) % 2 ^ n) := by
            rw [val_take_set out k _ hko, HV1.out, Nat.pow_succ, HW2.out, HW.out]
            exact low_step (by have := HV.out; rw [HW.out] at this; exact this) hzz
          exact this
        clear HV HV1 HW HW2 hzz
        go_wp2
        go_roundw
        case rel => exact ⟨k + 1, out.set k z, by omega, by go_num, Hid.len_set HL _ _, Hid.dg_set HDo _ hz, HR, hOk.set' hko _ (by omega), hBk.setCell (Nat.le_refl _) _⟩
        case measure => simp [intOf]; omega
      · have HW2 := Lib.hid (wd_past (l := digs x) (k := k + 1) (by omega))
        generalize (digs x)[k] = X at *
        rw [B_eq] at hX
        obtain ⟨z, t1, hz, hzz⟩ := low_word0 hX hn
        have HR : Hid (val ((out.set k z).take (k + 1)) * 2 ^ n + wd (digs x) 0 % 2 ^ n = val ((digs x).take (k + 1)) + B ^ (k + 1) * (wd (digs x) (k + 1) % 2 ^ n)) := by
          have : val ((out.set k z).take (k + 1)) * 2 ^ n + wd (digs x) 0 % 2 ^ n = val ((digs x).take (k + 1)) + B ^ (k + 1) * (wd (digs x) (k + 1) % 2 ^ n) := by
            rw [val_take_set out k _ hko, HV1.out, Nat.pow_succ, HW2.out, HW.out]
            exact low_step (by have := HV.out; rw [HW.out] at this; exact this) hzz
          exact this
        clear HV HV1 HW HW2 hzz
        go_wp2
        go_roundw
        case rel => exact ⟨k + 1, out.set k z, by omega, by go_num, Hid.len_set HL _ _, Hid.dg_set HDo _ hz, HR, hOk.set' hko _ (by omega), hBk.setCell (Nat.le_refl _) _⟩
        case measure => simp [intOf]; omega
    · obtain rfl : k = (digs x).length := by omega
      have HF : Hid (val out = x / 2 ^ n) := by
        have h1 := HV.out
        rw [List.take_of_length_le (by rw [HL.out]; omega), List.take_length, val_digs, wd_past (l := digs x) (k := (digs x).length) (Nat.le_refl _)] at h1
        have : val out = x / 2 ^ n := by
          have hp := Nat.two_pow_pos n
          rw [Nat.zero_mod, Nat.mul_zero, Nat.add_zero] at h1
          rw [← h1, Nat.add_comm, Nat.add_mul_div_right _ _ hp, Nat.div_eq_of_lt (Nat.mod_lt _ hp), Nat.zero_add]
        exact this
      clear HV
      go_wp2_with fail
      have hs := hOk.sl (c := (digs x).length) (by rw [HL.out]; omega) (by unfold maxLen; omega)
      have hT := trim_at out HDo.out _ _ hs
      rw [HL.out, HF.out] at hT
      refine Calls.mono hT ?_
      rintro e w' ⟨v, rfl, hv, rfl⟩
      clear hT hs
      go_wp2
      go_ret
      exact ⟨_, rfl, hv, hBk⟩
end Nm
end Go.Proofs.YtemenlcigengeaaGreatDoor
namespace Go.Proofs.YtemenlcigengeaaGreatDoor
open Go.RowKit
namespace Nm
theorem only_setCell {a w : World} {g : Nat} (h : a.grownBy w (some g)) {i : Nat} (u : Value) : a.grownBy (w.setCell ⟨g, i, none⟩ u) (some g) :=
  ⟨h.os, h.tape, h.output, by simpa [World.setCell] using h.size, fun j hj hne => (Below.heap_setCell w ⟨g, i, none⟩ u j (by
    rintro rfl; exact hne rfl)).trans (h.block j hj hne)⟩
theorem N.grown {w w' : World} {b b2 o2 c2 n : Nat} (h : N w (.slice (some ⟨b2, o2, none⟩) (wlen n) c2) n) (hg : w.grownBy w' (some b)) (hne : b2 ≠ b) : N w' (.slice (some ⟨b2, o2, none⟩) (wlen n) c2) n := by
  obtain ⟨a, cap, hv, h1, h2, h0, h3⟩ := h
  cases hv
  refine ⟨_, c2, rfl, h1, h2, h0, fun i x hx => ?_⟩
  obtain ⟨b', o', ha, hc⟩ := h3 i x hx
  cases ha
  exact ⟨b2, o2, rfl, (World.cell?_of_block (hg.block b2 (World.block_lt_of_cell? w _ hc) (fun e => by cases e; exact hne rfl))).trans hc⟩
theorem drop_set_ge (l : List Nat) (i k z : Nat) : (l.set (i + k) z).drop i = (l.drop i).set k z := by
  rw [List.drop_set, if_neg (by omega)]; congr 1; omega
theorem take_set_ge (l : List Nat) (i k z : Nat) : (l.set (i + k) z).take i = l.take i := by
  rw [List.take_set_of_le (by omega)]
/-- the part of t words from i on -/
def seg (l : List Nat) (i t : Nat) : List Nat := (l.drop i).take t
theorem seg_set (l : List Nat) {i k : Nat} (h : i + k < l.length) (z : Nat) : val (seg (l.set (i + k) z) i (k + 1)) = val (seg l i k) + B ^ k * z := by
  unfold seg; rw [drop_set_ge, val_take_set _ _ _ (by rw [List.length_drop]; omega)]
theorem seg_succ (l : List Nat) {i k : Nat} (h : i + k < l.length) : val (seg l i (k + 1)) = val (seg l i k) + B ^ k * l[i + k] := by
  unfold seg; rw [val_take_succ _ _ (by rw [List.length_drop]; omega)]; simp
theorem seg_lt {l : List Nat} (h : Dg l) (i t : Nat) : val (seg l i t) < B ^ t := by
  have := val_lt ((h.drop i).take t)
  refine Nat.lt_of_lt_of_le this (Nat.pow_le_pow_right B_pos ?_)
  rw [List.length_take]; omega
theorem drop_get {l m : List Nat} {k : Nat} (h : l.drop k = m.drop k) (h1 : k < l.length) (h2 : k < m.length) : l[k] = m[k] ∧ l.drop (k + 1) = m.drop (k + 1) := by
  rw [List.drop_eq_getElem_cons h1, List.drop_eq_getElem_cons h2] at h
  exact List.cons.inj h
def TakePost (w : World) (b : Nat) (L : List Nat) (i t V n : Nat) (e : Ending) (w' : World) : Prop :=
  ∃ (L' : List Nat) (br : Nat), br ≤ 1 ∧ e = .returned (.bool (decide (val (seg L i t) < n * V))) ∧ L'.length = L.length ∧ Dg L' ∧ L'.take i = L.take i ∧ L'.drop (i + t) = L.drop (i + t) ∧ val (seg L' i t) + n * V = val (seg L i t) + B ^ t * br ∧ (br = 1 ↔ val (seg L i t) < n * V) ∧ Own w' b L' ∧ w.grownBy w' (some b)
def BackPost (w : World) (b : Nat) (L : List Nat) (i t V : Nat) (e : Ending) (w' : World) : Prop :=
  ∃ (L' : List Nat) (br : Nat), br ≤ 1 ∧ e = .returned (.tuple #[]) ∧ L'.length = L.length ∧ Dg L' ∧ L'.take i = L.take i ∧ L'.drop (i + t) = L.drop (i + t) ∧ val (seg L' i t) + B ^ t * br = val (seg L i t) + V ∧ Own w' b L' ∧ w.grownBy w' (some b)
theorem take_step {P V A n Vk c c' X vk z : Nat} (h : V + n * Vk = A + P * c) (hz : z + n * vk + c = X + B * c') : (V + P * z) + n * (Vk + P * vk) = (A + P * X) + P * B * c' := by
  have := sub_step (Y := n * vk) h hz
  rw [Nat.mul_add, show n * (P * vk) = P * (n * vk) by ac_rfl]
  exact this
theorem nmul_le {n v c : Nat} (hn : n ≤ 4294967296) (hv : v < 4294967296) (hc : c < 4294967296) : (c : Int) + (n : Int) * (v : Int) ≤ 18446744073709551615 ∧ 0 ≤ (n : Int) * (v : Int) ∧ (n : Int) * (v : Int) ≤ 18446744069414584320 := by
  have h : n * v ≤ 4294967296 * 4294967295 := Nat.mul_le_mul hn (by omega)
  have h2 : ((n * v : Nat) : Int) = (n : Int) * (v : Int) := Int.natCast_mul _ _
  omega
set_option maxHeartbeats 16000000 in
theorem takeAway_at (L : List Nat) (hL : Dg L) (b i t c V n b2 o2 c2 : Nat) (w : World) (hO : Own w b L) (hv : N w (.slice (some ⟨b2, o2, none⟩) (wlen V) c2) V) (hne : b2 ≠ b) (hit : i + t ≤ L.length) (hLl : L.length ≤ 2000000000) (hVt : wlen V < t) (hn : n ≤ 4294967296) :
    Calls Tryz.prog 126 #[.slice (some ⟨b, i, none⟩) t c, .slice (some ⟨b2, o2, none⟩) (wlen V) c2, .int .u64 (n : Int)] w (TakePost w b L i t V n) := by
  have HV := Lib.hid (digs_dg V)
  have HL := Lib.hid hL
  have HNV := Lib.hid hv
  have hVl : wlen V ≤ 2000000000 := by omega
  unfold wlen at hVl hVt ⊢
  clear hL hv
  have HZ : Hid (val (seg L i 0) + n * val ((digs V).take 0) = val (seg L i 0) + B ^ 0 * (0 + 0)) := by
    have : val (seg L i 0) + n * val ((digs V).take 0) = val (seg L i 0) + B ^ 0 * (0 + 0) := by simp [val]
    exact this
  go_enter Tryz.func126, Tryz.ntmps126
  go_wp2
  go_loopw [7, 8, 14] (fun cv bv iv wr => ∃ (k cr br : Nat) (S : List Nat), k ≤ t ∧ iv = .int .i64 k ∧ cv = .int .u64 cr ∧ bv = .int .u64 br ∧ cr < 4294967296 ∧ br ≤ 1 ∧ Hid ((digs V).length < k → cr = 0) ∧ Hid (S.length = L.length) ∧ Hid (Dg S) ∧ Hid (S.take i = L.take i) ∧ Hid (S.drop (i + k) = L.drop (i + k)) ∧ Hid (val (seg S i k) + n * val ((digs V).take k) = val (seg L i k) + B ^ k * (cr + br)) ∧ Own wr b S ∧ w.grownBy wr (some b)) (fun _ _ iv _ => t - (intOf iv).toNat)
  case atStart => exact ⟨0, 0, 0, L, by omega, rfl, rfl, rfl, by omega, by omega, fun _ => rfl, Lib.hid rfl, HL, Lib.hid rfl, Lib.hid rfl, HZ, hO, World.grownBy.refl w _⟩
  case round =>
    obtain ⟨k, cr, br, S, hk, rfl, rfl, rfl, hcr, hbr, HC0, HSl, HSd, HSt, HSr, HI, hOk, hgk⟩ := hrel
    by_cases hlt : k < t
    · have hko : i + k < S.length := by have := HSl.out; omega
      have hkl : i + k < L.length := by omega
      have o0 := hOk.cell hko
      have o1 := hOk.frozen (i + k)
      have hX := HL.out.get hkl
      obtain ⟨hXe, hSr2⟩ := drop_get HSr.out hko hkl
      have HSr2 : ∀ z, Hid ((S.set (i + k) z).drop (i + (k + 1)) = L.drop (i + (k + 1))) := fun z => by
        have : (S.set (i + k) z).drop (i + (k + 1)) = L.drop (i + (k + 1)) := by rw [List.drop_set_of_lt (by omega)]; exact hSr2
        exact this
      have HSt2 : ∀ z, Hid ((S.set (i + k) z).take i = L.take i) := fun z => by
        have : (S.set (i + k) z).take i = L.take i := by rw [take_set_ge]; exact HSt.out
        exact this
      have HST : ∀ z vk c', Hid (wd (digs V) k = vk → z + n * vk + (cr + br) = L[i + k] + B * c' → val (seg (S.set (i + k) z) i (k + 1)) + n * val ((digs V).take (k + 1)) = val (seg L i (k + 1)) + B ^ (k + 1) * c') := fun z vk c' => by
        have : wd (digs V) k = vk → z + n * vk + (cr + br) = L[i + k] + B * c' → val (seg (S.set (i + k) z) i (k + 1)) + n * val ((digs V).take (k + 1)) = val (seg L i (k + 1)) + B ^ (k + 1) * c' := fun hY hz => by
          rw [seg_set S hko, seg_succ L hkl, val_take_wd, hY, Nat.pow_succ]
          exact take_step HI.out hz
        exact this
      rw [hXe] at o0
      have H1 := Lib.hid HSr2
      have H2 := Lib.hid HSt2
      have H3 := Lib.hid HST
      clear HST HSt2 HSr2 hSr2 hXe HI HSr HSt
      by_cases hly : k < (digs V).length
      · obtain ⟨_, _, hbo, f0⟩ := sl_addr (HNV.out.grown hgk hne) (wcs_get hly)
        cases hbo
        have hY := HV.out.get hly
        have HWD := Lib.hid (wd_get hly)
        have HC1 : ∀ c', Hid ((digs V).length < k + 1 → c' = 0) := fun c' h => by omega
        generalize L[i + k] = X at *
        generalize (digs V)[k] = Y at *
        rw [B_eq] at hX hY
        obtain ⟨hm1, hm2, hm3⟩ := nmul_le hn hY hcr
        have HM := Lib.hid (Int.natCast_mul n Y)
        by_cases hc : X < (cr + n * Y) % 4294967296 + br
        · have HR := Lib.hid ((H3.out (X + 4294967296 - ((cr + n * Y) % 4294967296 + br)) Y ((cr + n * Y) / 4294967296 + 1)).out HWD.out (by have hmm := HM.out; rw [B_eq]; omega))
          have HD3 := H1.out (X + 4294967296 - ((cr + n * Y) % 4294967296 + br))
          have HD4 := H2.out (X + 4294967296 - ((cr + n * Y) % 4294967296 + br))
          have hcI : (X : Int) < ((cr : Int) + (n : Int) * (Y : Int)) % 4294967296 + (br : Int) := by have hmm := HM.out; omega
          have HC2 := HC1 ((cr + n * Y) / 4294967296)
          have HCx := Lib.hid hc
          clear H1 H2 H3 HC1 hc
          go_wp2
          go_roundw
          case rel => exact ⟨k + 1, (cr + n * Y) / 4294967296, 1, S.set (i + k) (X + 4294967296 - ((cr + n * Y) % 4294967296 + br)), by omega, by go_num, by have hmm := HM.out; rw [← hmm]; go_num, rfl, by have hmm := HM.out; omega, by omega, HC2, Hid.len_set HSl _ _, Hid.dg_set HSd _ (by have := HCx.out; rw [B_eq]; omega), HD4, HD3, HR, hOk.set' hko _ (by have := HCx.out; have hmm := HM.out; omega), only_setCell hgk _⟩
          case measure => simp [intOf]; omega
        · have HR := Lib.hid ((H3.out (X - ((cr + n * Y) % 4294967296 + br)) Y ((cr + n * Y) / 4294967296 + 0)).out HWD.out (by have hmm := HM.out; rw [B_eq]; omega))
          have HD3 := H1.out (X - ((cr + n * Y) % 4294967296 + br))
          have HD4 := H2.out (X - ((cr + n * Y) % 4294967296 + br))
          have hcI : ((cr : Int) + (n : Int) * (Y : Int)) % 4294967296 + (br : Int) ≤ (X : Int) := by have hmm := HM.out; omega
          have HC2 := HC1 ((cr + n * Y) / 4294967296)
          have HCx := Lib.hid hc
          clear H1 H2 H3 HC1 hc
          go_wp2
          go_roundw
          case rel => exact ⟨k + 1, (cr + n * Y) / 4294967296, 0, S.set (i + k) (X - ((cr + n * Y) % 4294967296 + br)), by omega, by go_num, by have hmm := HM.out; rw [← hmm]; go_num, rfl, by have hmm := HM.out; omega, by omega, HC2, Hid.len_set HSl _ _, Hid.dg_set HSd _ (by have := HCx.out; rw [B_eq]; omega), HD4, HD3, HR, hOk.set' hko _ (by have := HCx.out; have hmm := HM.out; omega), only_setCell hgk _⟩
          case measure => simp [intOf]; omega
      · have HWD := Lib.hid (wd_past (l := digs V) (k := k) (by omega))
        have HC1 : ∀ c', Hid (c' = cr / 4294967296 → ((digs V).length < k + 1 → c' = 0)) := fun c' => by
          have : c' = cr / 4294967296 → ((digs V).length < k + 1 → c' = 0) := fun h _ => by omega
          exact this
        generalize L[i + k] = X at *
        rw [B_eq] at hX
        by_cases hc : X < cr % 4294967296 + br
        · have HR := Lib.hid ((H3.out (X + 4294967296 - (cr % 4294967296 + br)) 0 (cr / 4294967296 + 1)).out HWD.out (by rw [B_eq]; omega))
          have HD3 := H1.out (X + 4294967296 - (cr % 4294967296 + br))
          have HD4 := H2.out (X + 4294967296 - (cr % 4294967296 + br))
          have HC2 : Hid ((digs V).length < k + 1 → cr / 4294967296 = 0) := (HC1 (cr / 4294967296)).out rfl
          have hcI : X < cr + br := by omega
          have HCx := Lib.hid hc
          clear H1 H2 H3 HC1 hc
          go_wp2
          go_roundw
          case rel => exact ⟨k + 1, cr / 4294967296, 1, S.set (i + k) (X + 4294967296 - (cr % 4294967296 + br)), by omega, by go_num, by go_num, rfl, by omega, by omega, HC2, Hid.len_set HSl _ _, Hid.dg_set HSd _ (by have := HCx.out; rw [B_eq]; omega), HD4, HD3, HR, hOk.set' hko _ (by have := HCx.out; omega), only_setCell hgk _⟩
          case measure => simp [intOf]; omega
        · have HR := Lib.hid ((H3.out (X - (cr % 4294967296 + br)) 0 (cr / 4294967296 + 0)).out HWD.out (by rw [B_eq]; omega))
          have HD3 := H1.out (X - (cr % 4294967296 + br))
          have HD4 := H2.out (X - (cr % 4294967296 + br))
          have HC2 : Hid ((digs V).length < k + 1 → cr / 4294967296 = 0) := (HC1 (cr / 4294967296)).out rfl
          have hcI : cr + br ≤ X := by omega
          have HCx := Lib.hid hc
          clear H1 H2 H3 HC1 hc
          go_wp2
          go_roundw
          case rel => exact ⟨k + 1, cr / 4294967296, 0, S.set (i + k) (X - (cr % 4294967296 + br)), by omega, by go_num, by go_num, rfl, by omega, by omega, HC2, Hid.len_set HSl _ _, Hid.dg_set HSd _ (by have := HCx.out; rw [B_eq]; omega), HD4, HD3, HR, hOk.set' hko _ (by have := HCx.out; omega), only_setCell hgk _⟩
          case measure => simp [intOf]; omega
    · obtain rfl : k = t := by omega
      have HE : Hid (cr = 0) := HC0.out hVt
      have HI2 : Hid (val (seg S i k) + n * V = val (seg L i k) + B ^ k * br) := by
        have h1 := HI.out
        rw [List.take_of_length_le (by omega), val_digs, HE.out, Nat.zero_add] at h1
        exact h1
      have HLT := Lib.hid (seg_lt HSd.out i k)
      have HB : Hid (br = 1 ↔ val (seg L i k) < n * V) := by
        have h1 := HI2.out
        have h2 := HLT.out
        have : br = 1 ↔ val (seg L i k) < n * V := by
          obtain rfl | rfl : br = 0 ∨ br = 1 := by omega
          · rw [Nat.mul_zero] at h1; omega
          · rw [Nat.mul_one] at h1; omega
        exact this
      clear HI HE HC0
      go_wp2
      go_ret
      refine ⟨S, br, hbr, ?_, HSl.out, HSd.out, HSt.out, HSr.out, HI2.out, HB.out, hOk, hgk⟩
      refine congrArg (fun q => Ending.returned (.bool q)) ?_
      refine decide_eq_decide.2 ?_
      rw [← HB.out]
      constructor <;> intro _ <;> omega
set_option maxHeartbeats 16000000 in
theorem giveBack_at (L : List Nat) (hL : Dg L) (b i t c V b2 o2 c2 : Nat) (w : World) (hO : Own w b L) (hv : N w (.slice (some ⟨b2, o2, none⟩) (wlen V) c2) V) (hne : b2 ≠ b) (hit : i + t ≤ L.length) (hLl : L.length ≤ 2000000000) (hVt : wlen V < t) :
    Calls Tryz.prog 127 #[.slice (some ⟨b, i, none⟩) t c, .slice (some ⟨b2, o2, none⟩) (wlen V) c2] w (BackPost w b L i t V) := by
  have HV := Lib.hid (digs_dg V)
  have HL := Lib.hid hL
  have HNV := Lib.hid hv
  have hVl : wlen V ≤ 2000000000 := by omega
  unfold wlen at hVl hVt ⊢
  clear hL hv
  have HZ : Hid (val (seg L i 0) + B ^ 0 * 0 = val (seg L i 0) + val ((digs V).take 0)) := by
    have : val (seg L i 0) + B ^ 0 * 0 = val (seg L i 0) + val ((digs V).take 0) := by simp [val]
    exact this
  go_enter Tryz.func127, Tryz.ntmps127
  go_wp2
  go_loopw [4, 8] (fun cv iv wr => ∃ (k cr : Nat) (S : List Nat), k ≤ t ∧ iv = .int .i64 k ∧ cv = .int .u64 cr ∧ cr ≤ 1 ∧ Hid (S.length = L.length) ∧ Hid (Dg S) ∧ Hid (S.take i = L.take i) ∧ Hid (S.drop (i + k) = L.drop (i + k)) ∧ Hid (val (seg S i k) + B ^ k * cr = val (seg L i k) + val ((digs V).take k)) ∧ Own wr b S ∧ w.grownBy wr (some b)) (fun _ iv _ => t - (intOf iv).toNat)
  case atStart => exact ⟨0, 0, L, by omega, rfl, rfl, by omega, Lib.hid rfl, HL, Lib.hid rfl, Lib.hid rfl, HZ, hO, World.grownBy.refl w _⟩
  case round =>
    obtain ⟨k, cr, S, hk, rfl, rfl, hcr, HSl, HSd, HSt, HSr, HI, hOk, hgk⟩ := hrel
    by_cases hlt : k < t
    · have hko : i + k < S.length := by have := HSl.out; omega
      have hkl : i + k < L.length := by omega
      have o0 := hOk.cell hko
      have o1 := hOk.frozen (i + k)
      have hX := HL.out.get hkl
      obtain ⟨hXe, hSr2⟩ := drop_get HSr.out hko hkl
      have HSr2 : ∀ z, Hid ((S.set (i + k) z).drop (i + (k + 1)) = L.drop (i + (k + 1))) := fun z => by
        have : (S.set (i + k) z).drop (i + (k + 1)) = L.drop (i + (k + 1)) := by rw [List.drop_set_of_lt (by omega)]; exact hSr2
        exact this
      have HSt2 : ∀ z, Hid ((S.set (i + k) z).take i = L.take i) := fun z => by
        have : (S.set (i + k) z).take i = L.take i := by rw [take_set_ge]; exact HSt.out
        exact this
      have HST : ∀ vk, Hid (wd (digs V) k = vk → val (seg (S.set (i + k) ((cr + L[i + k] + vk) % 4294967296)) i (k + 1)) + B ^ (k + 1) * ((cr + L[i + k] + vk) / 4294967296) = val (seg L i (k + 1)) + val ((digs V).take (k + 1))) := fun vk => by
        have : wd (digs V) k = vk → val (seg (S.set (i + k) ((cr + L[i + k] + vk) % 4294967296)) i (k + 1)) + B ^ (k + 1) * ((cr + L[i + k] + vk) / 4294967296) = val (seg L i (k + 1)) + val ((digs V).take (k + 1)) := fun hY => by
          rw [seg_set S hko, seg_succ L hkl, val_take_wd, hY, Nat.pow_succ]
          exact add_step HI.out
        exact this
      rw [hXe] at o0
      have H1 := Lib.hid HSr2
      have H2 := Lib.hid HSt2
      have H3 := Lib.hid HST
      clear HST HSt2 HSr2 hSr2 hXe HI HSr HSt
      by_cases hly : k < (digs V).length
      · obtain ⟨_, _, hbo, f0⟩ := sl_addr (HNV.out.grown hgk hne) (wcs_get hly)
        cases hbo
        have hY := HV.out.get hly
        have HWD := Lib.hid (wd_get hly)
        generalize L[i + k] = X at *
        generalize (digs V)[k] = Y at *
        rw [B_eq] at hX hY
        have HR := Lib.hid ((H3.out Y).out HWD.out)
        have HD3 := H1.out ((cr + X + Y) % 4294967296)
        have HD4 := H2.out ((cr + X + Y) % 4294967296)
        clear H1 H2 H3
        go_wp2
        go_roundw
        case rel => exact ⟨k + 1, (cr + X + Y) / 4294967296, S.set (i + k) ((cr + X + Y) % 4294967296), by omega, by go_num, by go_num, by omega, Hid.len_set HSl _ _, Hid.dg_set HSd _ (by rw [B_eq]; omega), HD4, HD3, HR, hOk.set' hko _ (by omega), only_setCell hgk _⟩
        case measure => simp [intOf]; omega
      · have HWD := Lib.hid (wd_past (l := digs V) (k := k) (by omega))
        generalize L[i + k] = X at *
        rw [B_eq] at hX
        have HR : Hid (val (seg (S.set (i + k) ((cr + X) % 4294967296)) i (k + 1)) + B ^ (k + 1) * ((cr + X) / 4294967296) = val (seg L i (k + 1)) + val ((digs V).take (k + 1))) := by
          have := (H3.out 0).out HWD.out
          rw [Nat.add_zero] at this
          exact this
        have HD3 := H1.out ((cr + X) % 4294967296)
        have HD4 := H2.out ((cr + X) % 4294967296)
        clear H1 H2 H3
        go_wp2
        go_roundw
        case rel => exact ⟨k + 1, (cr + X) / 4294967296, S.set (i + k) ((cr + X) % 4294967296), by omega, by go_num, by go_num, by omega, Hid.len_set HSl _ _, Hid.dg_set HSd _ (by rw [B_eq]; omega), HD4, HD3, HR, hOk.set' hko _ (by omega), only_setCell hgk _⟩
        case measure => simp [intOf]; omega
    · obtain rfl : k = t := by omega
      have HI2 : Hid (val (seg S i k) + B ^ k * cr = val (seg L i k) + V) := by
        have h1 := HI.out
        rw [List.take_of_length_le (by omega), val_digs] at h1
        exact h1
      clear HI
      go_wp2
      go_end0
      exact ⟨S, cr, hcr, rfl, HSl.out, HSd.out, HSt.out, HSr.out, HI2.out, hOk, hgk⟩
end Nm
end Go.Proofs.YtemenlcigengeaaGreatDoor
