/- Times of package value. small, shifted, lowered of package value. shifted, lowered of package value. -/
import Derived.Test.YtilolnjbpokdnaaGreatDoorBq04
import Derived.Laws.BitsAllLaws
namespace Go.Proofs.YtilolnjbpokdnaaGreatDoor
open Go.RowKit
namespace Nm
theorem mul_step {Pi Pk V V' V0 cr X Y O vk z q : Nat} (hset : V' + Pi * Pk * O = V + Pi * Pk * z) (hinv : V + Pi * Pk * cr = V0 + Pi * (X * vk)) (hs : z + B * q = cr + (X * Y + O)) : V' + Pi * (Pk * B) * q = V0 + Pi * (X * (vk + Pk * Y)) := by
  have e : Pi * Pk * (z + B * q) = Pi * Pk * (cr + (X * Y + O)) := by rw [hs]
  rw [Nat.mul_add, Nat.mul_add, Nat.mul_add] at e
  have e1 : Pi * (Pk * B) * q = Pi * Pk * (B * q) := by ac_rfl
  have e2 : Pi * (X * (vk + Pk * Y)) = Pi * (X * vk) + Pi * Pk * (X * Y) := by
    rw [Nat.mul_add, Nat.mul_add]; congr 1; ac_rfl
  omega
theorem mul_le {X Y : Nat} (hX : X < 4294967296) (hY : Y < 4294967296) : (X : Int) * (Y : Int) ≤ 18446744065119617025 ∧ 0 ≤ (X : Int) * (Y : Int) := by
  have h : X * Y ≤ 4294967295 * 4294967295 := Nat.mul_le_mul (by omega) (by omega)
  have h2 : ((X * Y : Nat) : Int) = (X : Int) * (Y : Int) := Int.natCast_mul _ _
  omega
theorem val_take_set_in (l : List Nat) (k y T : Nat) (h : k < T) (hT : T ≤ l.length) : val ((l.set k y).take T) + B ^ k * l[k]'(by omega) = val (l.take T) + B ^ k * y := by
  have h1 : k < (l.take T).length := by rw [List.length_take]; omega
  have := val_set (l.take T) k y h1
  rw [List.take_set]
  simpa using this
set_option maxHeartbeats 8000000 in
theorem times_at (x y : Nat) (v u : Value) (w : World) (hx : N w v x) (hy : N w u y) (hxl : wlen x ≤ 1000000000) (hyl : wlen y ≤ 1000000000) : Calls Tryz.prog 122 #[v, u] w (NPost w (x * y)) := by
  obtain ⟨a, c, rfl, s1⟩ := hx.open_
  obtain ⟨a', c', rfl, s2⟩ := hy.open_
  obtain ⟨p1, p2⟩ := sl_caps s1
  obtain ⟨q1, q2⟩ := sl_caps s2
  have HX := Lib.hid (digs_dg x)
  have HY := Lib.hid (digs_dg y)
  unfold wlen at hxl hyl
  clear hx hy
  go_enter Tryz.func122, Tryz.ntmps122
  go_wp2_with (refine wpList_make_words rfl _ _ rfl ((digs x).length + (digs y).length) rfl rfl ?_ ?_ ?_; rotate_left 2; intro W hO hB hsz)
  case refine_1 => go_num
  case refine_2 => omega
  clear hsz
  have HZ : Hid (val ((List.replicate ((digs x).length + (digs y).length) 0).take (0 + (digs y).length)) = val ((digs x).take 0) * y) := by
    have : val ((List.replicate ((digs x).length + (digs y).length) 0).take (0 + (digs y).length)) = val ((digs x).take 0) * y := by rw [List.take_replicate, val_zeros]; simp [val]
    exact this
  go_loopw [19] (fun iv wr => ∃ (i : Nat) (out : List Nat), i ≤ (digs x).length ∧ iv = .int .i64 i ∧ Hid (out.length = (digs x).length + (digs y).length) ∧ Hid (Dg out) ∧ Hid (val (out.take (i + (digs y).length)) = val ((digs x).take i) * y) ∧ Own wr w.heap.size out ∧ Below w.heap.size w wr) (fun iv _ => (digs x).length - (intOf iv).toNat)
  case atStart => exact ⟨0, List.replicate ((digs x).length + (digs y).length) 0, by omega, rfl, by have := @List.length_replicate Nat ((digs x).length + (digs y).length) 0; exact this, Dg.zeros _, HZ, hO, hB⟩
  case round =>
    obtain ⟨i, out0, hi, rfl, HL, HDo, HV, hOk, hBk⟩ := hrel
    by_cases hlt : i < (digs x).length
    · obtain ⟨b, o, rfl, e0⟩ := sl_addr (s1.ext hBk) (wcs_get hlt)
      have hX := HX.out.get hlt
      have HV1 := Lib.hid (val_take_succ (digs x) i hlt)
      generalize (digs x)[i] = X at *
      rw [B_eq] at hX
      have HZ2 : Hid (val (out0.take (i + (digs y).length)) + B ^ i * B ^ 0 * 0 = val ((digs x).take i) * y + B ^ i * (X * val ((digs y).take 0))) := by
        have : val (out0.take (i + (digs y).length)) + B ^ i * B ^ 0 * 0 = val ((digs x).take i) * y + B ^ i * (X * val ((digs y).take 0)) := by rw [HV.out]; simp [val]
        exact this
      clear HV
      go_wp2
      go_loopw [8, 26] (fun cv kv wr => ∃ (k cr : Nat) (out : List Nat), k ≤ (digs y).length ∧ kv = .int .i64 k ∧ cv = .int .u64 cr ∧ cr < 4294967296 ∧ Hid (out.length = (digs x).length + (digs y).length) ∧ Hid (Dg out) ∧ Hid (val (out.take (i + (digs y).length)) + B ^ i * B ^ k * cr = val ((digs x).take i) * y + B ^ i * (X * val ((digs y).take k))) ∧ Own wr w.heap.size out ∧ Below w.heap.size w wr) (fun _ kv _ => (digs y).length - (intOf kv).toNat)
      case atStart => exact ⟨0, 0, out0, by omega, rfl, rfl, by omega, HL, HDo, HZ2, hOk, hBk⟩
      case round =>
        clear hOk hBk HL HDo HZ2 e0
        obtain ⟨k, cr, out, hk, rfl, rfl, hcr, HL, HDo, HV, hOk, hBk⟩ := hrel
        by_cases hlk : k < (digs y).length
        · obtain ⟨b', o', rfl, f0⟩ := sl_addr (s2.ext hBk) (wcs_get hlk)
          have hY := HY.out.get hlk
          have hko : i + k < out.length := by have := HL.out; omega
          have o0 := hOk.cell hko
          have o1 := hOk.frozen (i + k)
          have hOo := HDo.out.get hko
          have hV2 := val_take_succ (digs y) k hlk
          have hset := fun z => val_take_set_in out (i + k) z (i + (digs y).length) (by omega) (by have := HL.out; omega)
          generalize out[i + k] = O at *
          generalize (digs y)[k] = Y at *
          rw [B_eq] at hY hOo
          obtain ⟨hm1, hm2⟩ := mul_le hX hY
          have hm3 : ((X * Y : Nat) : Int) = (X : Int) * (Y : Int) := Int.natCast_mul _ _
          have HR : Hid (val ((out.set (i + k) ((cr + (X * Y + O)) % 4294967296)).take (i + (digs y).length)) + B ^ i * B ^ (k + 1) * ((cr + (X * Y + O)) / 4294967296) = val ((digs x).take i) * y + B ^ i * (X * val ((digs y).take (k + 1)))) := by
            have h1 := hset ((cr + (X * Y + O)) % 4294967296)
            rw [Nat.pow_add] at h1
            have h2 := mul_step (Y := Y) h1 HV.out (q := (cr + (X * Y + O)) / 4294967296) (by rw [B_eq]; exact Nat.mod_add_div _ _)
            rw [hV2, Nat.pow_succ]; exact h2
          have HM := Lib.hid hm3
          clear hset hV2 hm3
          go_wp2
          go_roundw
          case rel => exact ⟨k + 1, (cr + (X * Y + O)) / 4294967296, out.set (i + k) ((cr + (X * Y + O)) % 4294967296), by omega, by go_num, by rw [← HM.out]; go_num, by have := HM.out; omega, Hid.len_set HL _ _, Hid.dg_set HDo _ (Nat.mod_lt _ B_pos), HR, hOk.set' hko _ (by rw [← HM.out]; omega), hBk.setCell (Nat.le_refl _) _⟩
          case measure => simp [intOf]; omega
        · obtain rfl : k = (digs y).length := by omega
          have hko : i + (digs y).length < out.length := by have := HL.out; omega
          have o0 := hOk.cell hko
          have o1 := hOk.frozen (i + (digs y).length)
          have HR : Hid (val ((out.set (i + (digs y).length) cr).take (i + 1 + (digs y).length)) = val ((digs x).take (i + 1)) * y) := by
            have h1 := val_take_set out (i + (digs y).length) cr hko
            have h2 := HV.out
            rw [List.take_length, val_digs] at h2
            rw [Nat.add_right_comm, h1, Nat.pow_add, h2, HV1.out, Nat.add_mul, Nat.mul_assoc]; exact Lib.hid rfl
          go_wp2
          go_roundw
          case rel => exact ⟨i + 1, out.set (i + (digs y).length) cr, by omega, by go_num, Hid.len_set HL _ _, Hid.dg_set HDo _ (by rw [B_eq]; omega), HR, hOk.set' hko _ (by omega), hBk.setCell (Nat.le_refl _) _⟩
          case measure => simp [intOf]; omega
    · obtain rfl : i = (digs x).length := by omega
      have HF : Hid (val out0 = x * y) := by
        have h1 := HV.out
        rw [List.take_of_length_le (by rw [HL.out]; omega), List.take_length, val_digs] at h1
        exact h1
      clear HV
      go_wp2_with fail
      have hs := hOk.sl (c := (digs x).length + (digs y).length) (by rw [HL.out]; omega) (by unfold maxLen; omega)
      have hT := trim_at out0 HDo.out _ _ hs
      rw [HL.out, HF.out] at hT
      refine Calls.mono hT ?_
      rintro e w' ⟨v, rfl, hv, rfl⟩
      clear hT hs
      go_wp2
      go_ret
      exact ⟨_, rfl, hv, hBk⟩
end Nm
end Go.Proofs.YtilolnjbpokdnaaGreatDoor
namespace Go.Proofs.YtilolnjbpokdnaaGreatDoor
open Go.RowKit
namespace Nm
theorem or64 {r X : Nat} (hr : r < 4294967296) (hX : X < 4294967296) : bits BinOp.or IntKind.u64 ((r : Int) * 4294967296) (X : Int) = (r : Int) * 4294967296 + (X : Int) := by
  have h := u64_or_nat (4294967296 * r) X (by omega) (by omega)
  have h2 := Nat.two_pow_add_eq_or_of_lt (i := 32) (b := X) (by simpa using hX) r
  rw [show (2 : Nat) ^ 32 = 4294967296 by decide] at h2
  rw [← h2] at h
  rw [show ((r : Int) * 4294967296) = ((4294967296 * r : Nat) : Int) by omega, h]; omega
/-- a number of two words divided by a word -/
theorem div_word {r X n : Nat} (hr : r < n) (hX : X < 4294967296) : ∃ q r', r * 4294967296 + X = q * n + r' ∧ r' < n ∧ q < 4294967296 ∧
    ((r : Int) * 4294967296 + (X : Int)).tdiv (n : Int) = (q : Int) ∧ ((r : Int) * 4294967296 + (X : Int)).tmod (n : Int) = (r' : Int) ∧ ((r : Int) * 4294967296 + (X : Int)) / (n : Int) = (q : Int) ∧ ((r : Int) * 4294967296 + (X : Int)) % (n : Int) = (r' : Int) := by
  have hc : ((r : Int) * 4294967296 + (X : Int)) = ((r * 4294967296 + X : Nat) : Int) := by omega
  have hq : (r * 4294967296 + X) / n < 4294967296 := by
    rw [Nat.div_lt_iff_lt_mul (by omega)]
    have : (r + 1) * 4294967296 ≤ n * 4294967296 := Nat.mul_le_mul_right _ hr
    omega
  refine ⟨(r * 4294967296 + X) / n, (r * 4294967296 + X) % n, (Nat.div_add_mod' _ _).symm, Nat.mod_lt _ (by omega), hq, ?_, ?_, ?_, ?_⟩
  · rw [hc]; rfl
  · rw [hc]; rfl
  · rw [hc]; rfl
  · rw [hc]; rfl
theorem small_step {D V n r X q r' : Nat} (hV : D = V * n + r) (h : r * 4294967296 + X = q * n + r') : X + B * D = (q + B * V) * n + r' := by
  subst hV
  rw [B_eq, Nat.add_mul, Nat.mul_add, Nat.mul_assoc]
  omega
/-- a quotient, and a word -/
def SmallPost (w : World) (q r : Nat) (e : Ending) (w' : World) : Prop := ∃ v, e = .returned (.tuple #[v, .int .u32 (r : Int)]) ∧ N w' v q ∧ Below w.heap.size w w'
set_option maxHeartbeats 8000000 in
theorem small_at (x n : Nat) (v : Value) (w : World) (hx : N w v x) (hxl : wlen x ≤ 1000000000) (hn : 0 < n) (hn2 : n < 4294967296) : Calls Tryz.prog 153 #[v, .int .u32 (n : Int)] w (SmallPost w (x / n) (x % n)) := by
  obtain ⟨a, c, rfl, s1⟩ := hx.open_
  obtain ⟨p1, p2⟩ := sl_caps s1
  have HX := Lib.hid (digs_dg x)
  unfold wlen at hxl
  clear hx
  go_enter Tryz.func153, Tryz.ntmps153
  go_wp2_with (refine wpList_make_words rfl _ _ rfl (digs x).length rfl rfl ?_ ?_ ?_; rotate_left 2; intro W hO hB hsz)
  case refine_1 => go_num
  case refine_2 => omega
  clear hsz
  have HZ : Hid (val ((digs x).drop (digs x).length) = val ((List.replicate (digs x).length 0).drop (digs x).length) * n + 0) := by
    have : val ((digs x).drop (digs x).length) = val ((List.replicate (digs x).length 0).drop (digs x).length) * n + 0 := by simp [val]
    exact this
  go_loopw [7, 8] (fun rv iv wr => ∃ (k r : Nat) (out : List Nat), k ≤ (digs x).length ∧ iv = .int .i64 ((k : Int) - 1) ∧ rv = .int .u64 r ∧ r < n ∧ Hid (out.length = (digs x).length) ∧ Hid (Dg out) ∧ Hid (val ((digs x).drop k) = val (out.drop k) * n + r) ∧ Own wr w.heap.size out ∧ Below w.heap.size w wr) (fun _ iv _ => (intOf iv + 1).toNat)
  case atStart => exact ⟨(digs x).length, 0, List.replicate (digs x).length 0, Nat.le_refl _, rfl, rfl, hn, by have := @List.length_replicate Nat (digs x).length 0; exact this, Dg.zeros _, HZ, hO, hB⟩
  case round =>
    obtain ⟨k, r, out, hk, rfl, rfl, hr, HL, HDo, HV, hOk, hBk⟩ := hrel
    cases k with
    | zero =>
      have HF : Hid (val out = x / n ∧ r = x % n) := by
        have h1 := HV.out
        rw [List.drop_zero, List.drop_zero, val_digs] at h1
        have : val out = x / n ∧ r = x % n := by
          constructor
          · rw [h1, Nat.add_comm, Nat.add_mul_div_right _ _ hn, Nat.div_eq_of_lt hr, Nat.zero_add]
          · rw [h1, Nat.add_comm, Nat.add_mul_mod_self_right, Nat.mod_eq_of_lt hr]
        exact this
      clear HV
      go_wp2_with fail
      have hs := hOk.sl (c := (digs x).length) (by rw [HL.out]; omega) (by unfold maxLen; omega)
      have hT := trim_at out HDo.out _ _ hs
      rw [HL.out] at hT
      refine Calls.mono hT ?_
      rintro e w' ⟨v, rfl, hv, rfl⟩
      clear hT hs
      go_wp2
      go_ret2
      rw [← HF.out.1, ← HF.out.2]
      exact ⟨_, rfl, hv, hBk⟩
    | succ j =>
      have hlt : j < (digs x).length := by omega
      obtain ⟨b, o, rfl, e0⟩ := sl_addr (s1.ext hBk) (wcs_get hlt)
      have hX := HX.out.get hlt
      have hko : j < out.length := by have := HL.out; omega
      have o0 := hOk.cell hko
      have o1 := hOk.frozen j
      have HV1 := Lib.hid (val_drop (digs x) j hlt)
      rw [show (((j + 1 : Nat) : Int) - 1) = (j : Int) by omega]
      generalize (digs x)[j] = X at *
      rw [B_eq] at hX
      obtain ⟨q, r', hdv, hr', hq, t1, t2, t3, t4⟩ := div_word hr hX
      have HR : Hid (val ((digs x).drop j) = val ((out.set j q).drop j) * n + r') := by
        have : val ((digs x).drop j) = val ((out.set j q).drop j) * n + r' := by
          rw [HV1.out, drop_set out j q hko]
          exact small_step HV.out hdv
        exact this
      have hor := or64 (r := r) (X := X) (by omega) hX
      clear HV HV1 hdv
      go_wp2
      go_roundw
      case rel => exact ⟨j, r', out.set j q, by omega, rfl, rfl, hr', Hid.len_set HL _ _, Hid.dg_set HDo _ hq, HR, hOk.set' hko _ (by omega), hBk.setCell (Nat.le_refl _) _⟩
      case measure => simp [intOf]
end Nm
end Go.Proofs.YtilolnjbpokdnaaGreatDoor
namespace Go.Proofs.YtilolnjbpokdnaaGreatDoor
open Go.RowKit
namespace Nm
theorem pow_cast (n : Nat) : (2 : Int) ^ n = ((2 ^ n : Nat) : Int) := by rw [Int.natCast_pow]; rfl
theorem pow_split {n : Nat} (hn : n < 32) : 2 ^ (32 - n) * 2 ^ n = 4294967296 := by rw [← Nat.pow_add, show 32 - n + n = 32 by omega]
/-- a word shifted to the left, with what came from the right -/
theorem shift_word {X n cr : Nat} (hX : X < 4294967296) (hn : n < 32) (hc : cr < 2 ^ n) : ∃ z h : Nat, bits BinOp.or IntKind.u32 ((X : Int) * 2 ^ n % 4294967296) (cr : Int) = (z : Int) ∧ (X : Int) / 2 ^ (32 - n) % 4294967296 = (h : Int) ∧ z < 4294967296 ∧ h < 2 ^ n ∧ h < 4294967296 ∧ z + 4294967296 * h = X * 2 ^ n + cr := by
  have hE := pow_split hn
  have hD : (2 ^ n : Nat) ≤ 4294967296 := by rw [← hE]; exact Nat.le_mul_of_pos_left _ (Nat.two_pow_pos _)
  have h1 : X * 2 ^ n % 4294967296 = 2 ^ n * (X % 2 ^ (32 - n)) := by
    conv => lhs; rw [← hE]
    rw [Nat.mul_mod_mul_right, Nat.mul_comm]
  have h2 : X / 2 ^ (32 - n) < 2 ^ n := by rw [Nat.div_lt_iff_lt_mul (Nat.two_pow_pos _), Nat.mul_comm, hE]; exact hX
  have h3 : 2 ^ n * (X % 2 ^ (32 - n)) + cr < 4294967296 := by
    have hm := Nat.mod_lt X (Nat.two_pow_pos (32 - n))
    have : 2 ^ n * (X % 2 ^ (32 - n) + 1) ≤ 2 ^ n * 2 ^ (32 - n) := Nat.mul_le_mul_left _ hm
    rw [Nat.mul_comm (2 ^ n) (2 ^ (32 - n)), hE, Nat.mul_add, Nat.mul_one] at this
    omega
  refine ⟨2 ^ n * (X % 2 ^ (32 - n)) + cr, X / 2 ^ (32 - n), ?_, ?_, h3, h2, by omega, ?_⟩
  · have e : ((X : Int) * 2 ^ n % 4294967296) = ((2 ^ n * (X % 2 ^ (32 - n)) : Nat) : Int) := by
      rw [← h1, pow_cast]; rfl
    rw [e, u32_or_nat _ _ (by omega) (by omega), ← Nat.two_pow_add_eq_or_of_lt hc]
  · rw [pow_cast]
    have : ((X : Int) / ((2 ^ (32 - n) : Nat) : Int) % 4294967296) = ((X / 2 ^ (32 - n) % 4294967296 : Nat) : Int) := rfl
    rw [this, Nat.mod_eq_of_lt (by omega)]
  · have := Nat.div_add_mod X (2 ^ (32 - n))
    have e : X * 2 ^ n = 2 ^ (32 - n) * 2 ^ n * (X / 2 ^ (32 - n)) + 2 ^ n * (X % 2 ^ (32 - n)) := by
      conv => lhs; rw [← this]
      rw [Nat.add_mul]; congr 1 <;> ac_rfl
    rw [hE] at e; omega
theorem shift_step {P V A c z h X D : Nat} (hV : V + P * c = A * D) (hz : z + 4294967296 * h = X * D + c) : (V + P * z) + P * B * h = (A + P * X) * D := by
  have e : P * (z + 4294967296 * h) = P * (X * D + c) := by rw [hz]
  rw [Nat.mul_add, Nat.mul_add] at e
  rw [B_eq, Nat.add_mul, Nat.mul_assoc, Nat.mul_assoc P X D]
  omega
/-- a word shifted to the right, with what comes from the left -/
theorem low_word {X Y n : Nat} (hX : X < 4294967296) (hY : Y < 4294967296) (hn : n < 32) : ∃ z : Nat, bits BinOp.or IntKind.u64 (X : Int) ((Y : Int) * 4294967296) / 2 ^ n % 4294967296 = (z : Int) ∧ z < 4294967296 ∧ z * 2 ^ n + X % 2 ^ n = X + B * (Y % 2 ^ n) := by
  have hE := pow_split hn
  have hp := Nat.two_pow_pos n
  have hor : bits BinOp.or IntKind.u64 (X : Int) ((Y : Int) * 4294967296) = ((X + 4294967296 * Y : Nat) : Int) := by
    have h := u64_or_nat X (4294967296 * Y) (by omega) (by omega)
    have h2 := Nat.two_pow_add_eq_or_of_lt (i := 32) (b := X) (by simpa using hX) Y
    rw [show (2 : Nat) ^ 32 = 4294967296 by decide] at h2
    rw [Nat.or_comm, ← h2] at h
    rw [show ((Y : Int) * 4294967296) = ((4294967296 * Y : Nat) : Int) by omega, h]; omega
  refine ⟨(X + 4294967296 * Y) / 2 ^ n % 4294967296, by rw [hor, pow_cast]; rfl, Nat.mod_lt _ (by decide), ?_⟩
  have h1 : (X + 4294967296 * Y) / 2 ^ n = X / 2 ^ n + 2 ^ (32 - n) * Y := by
    conv => lhs; rw [← hE]
    rw [show 2 ^ (32 - n) * 2 ^ n * Y = 2 ^ n * (2 ^ (32 - n) * Y) by ac_rfl, Nat.add_mul_div_left _ _ hp]
  have h2 : X / 2 ^ n < 2 ^ (32 - n) := by rw [Nat.div_lt_iff_lt_mul hp, hE]; exact hX
  have h3 : X / 2 ^ n + 2 ^ (32 - n) * (Y % 2 ^ n) < 4294967296 := by
    have : 2 ^ (32 - n) * (Y % 2 ^ n + 1) ≤ 2 ^ (32 - n) * 2 ^ n := Nat.mul_le_mul_left _ (Nat.mod_lt _ hp)
    rw [hE, Nat.mul_add, Nat.mul_one] at this
    omega
  have h4 : (X / 2 ^ n + 2 ^ (32 - n) * Y) % 4294967296 = X / 2 ^ n + 2 ^ (32 - n) * (Y % 2 ^ n) := by
    conv => lhs; rw [← Nat.div_add_mod Y (2 ^ n)]
    rw [Nat.mul_add, ← Nat.mul_assoc, hE, show X / 2 ^ n + (4294967296 * (Y / 2 ^ n) + 2 ^ (32 - n) * (Y % 2 ^ n)) = (X / 2 ^ n + 2 ^ (32 - n) * (Y % 2 ^ n)) + 4294967296 * (Y / 2 ^ n) by omega, Nat.add_mul_mod_self_left, Nat.mod_eq_of_lt h3]
  rw [h1, h4, Nat.add_mul, show 2 ^ (32 - n) * (Y % 2 ^ n) * 2 ^ n = 2 ^ (32 - n) * 2 ^ n * (Y % 2 ^ n) by ac_rfl, hE, B_eq]
  have := Nat.div_add_mod' X (2 ^ n)
  omega
theorem low_word0 {X n : Nat} (hX : X < 4294967296) (_hn : n < 32) : ∃ z : Nat, (X : Int) / 2 ^ n % 4294967296 = (z : Int) ∧ z < 4294967296 ∧ z * 2 ^ n + X % 2 ^ n = X + B * (0 % 2 ^ n) := by
  have hle := Nat.div_le_self X (2 ^ n)
  refine ⟨X / 2 ^ n, ?_, by omega, ?_⟩
  · rw [pow_cast]
    have : ((X : Int) / ((2 ^ n : Nat) : Int) % 4294967296) = ((X / 2 ^ n % 4294967296 : Nat) : Int) := rfl
    rw [this, Nat.mod_eq_of_lt (by omega)]
  · have := Nat.div_add_mod' X (2 ^ n)
    simp; omega
theorem low_step {P V A r0 z X m D R : Nat} (h : V * D + r0 = A + P * m) (hz : z * D + m = X + B * R) : (V + P * z) * D + r0 = (A + P * X) + P * B * R := by
  have e : P * (z * D + m) = P * (X + B * R) := by rw [hz]
  rw [Nat.mul_add, Nat.mul_add, ← Nat.mul_assoc, ← Nat.mul_assoc] at e
  rw [Nat.add_mul]
  omega
/-- a row of the call's own -/
def RowPost (w : World) (n : Nat) (P : List Nat → Prop) (e : Ending) (w' : World) : Prop := ∃ b l, e = .returned (.slice (some ⟨b, 0, none⟩) n n) ∧ w.heap.size ≤ b ∧ l.length = n ∧ Dg l ∧ P l ∧ Own w' b l ∧ Below w.heap.size w w'
set_option maxHeartbeats 8000000 in
theorem shifted_at (x n : Nat) (v : Value) (w : World) (hx : N w v x) (hxl : wlen x ≤ 1000000000) (hn : n < 32) : Calls Tryz.prog 183 #[v, .int .i64 (n : Int)] w (RowPost w (wlen x + 1) (fun l => val l = x * 2 ^ n)) := by
  obtain ⟨a, c, rfl, s1⟩ := hx.open_
  obtain ⟨p1, p2⟩ := sl_caps s1
  have HX := Lib.hid (digs_dg x)
  unfold wlen at hxl ⊢
  clear hx
  go_enter Tryz.func183, Tryz.ntmps183
  go_wp2_with (refine wpList_make_words rfl _ _ rfl ((digs x).length + 1) rfl rfl ?_ ?_ ?_; rotate_left 2; intro W hO hB hsz)
  case refine_1 => go_num
  case refine_2 => omega
  clear hsz
  have HZ : Hid (val ((List.replicate ((digs x).length + 1) 0).take 0) + B ^ 0 * 0 = val ((digs x).take 0) * 2 ^ n) := by
    have : val ((List.replicate ((digs x).length + 1) 0).take 0) + B ^ 0 * 0 = val ((digs x).take 0) * 2 ^ n := by simp [val]
    exact this
  go_loopw [6, 15] (fun cv iv wr => ∃ (k cr : Nat) (out : List Nat), k ≤ (digs x).length ∧ iv = .int .i64 k ∧ cv = .int .u32 cr ∧ Hid (cr < 2 ^ n) ∧ Hid (out.length = (digs x).length + 1) ∧ Hid (Dg out) ∧ Hid (val (out.take k) + B ^ k * cr = val ((digs x).take k) * 2 ^ n) ∧ Own wr w.heap.size out ∧ Below w.heap.size w wr) (fun _ iv _ => (digs x).length - (intOf iv).toNat)
  case atStart => exact ⟨0, 0, List.replicate ((digs x).length + 1) 0, by omega, rfl, rfl, Nat.two_pow_pos n, by have := @List.length_replicate Nat ((digs x).length + 1) 0; exact this, Dg.zeros _, HZ, hO, hB⟩
  case round =>
    obtain ⟨k, cr, out, hk, rfl, rfl, Hcr, HL, HDo, HV, hOk, hBk⟩ := hrel
    have hko : k < out.length := by have := HL.out; omega
    have o0 := hOk.cell hko
    have o1 := hOk.frozen k
    by_cases hlt : k < (digs x).length
    · obtain ⟨b, o, rfl, e0⟩ := sl_addr (s1.ext hBk) (wcs_get hlt)
      have hX := HX.out.get hlt
      have HV1 := Lib.hid (val_take_succ (digs x) k hlt)
      generalize (digs x)[k] = X at *
      rw [B_eq] at hX
      obtain ⟨z, h, t1, t2, hz, hh, hh2, hzh⟩ := shift_word hX hn Hcr.out
      have HR : Hid (val ((out.set k z).take (k + 1)) + B ^ (k + 1) * h = val ((digs x).take (k + 1)) * 2 ^ n) := by
        have : val ((out.set k z).take (k + 1)) + B ^ (k + 1) * h = val ((digs x).take (k + 1)) * 2 ^ n := by
          rw [val_take_set out k _ hko, HV1.out, Nat.pow_succ]
          exact shift_step HV.out hzh
        exact this
      have HH := Lib.hid hh
      clear HV HV1 hzh hh
      go_wp2
      go_roundw
      case rel => exact ⟨k + 1, h, out.set k z, by omega, by go_num, by go_num, HH, Hid.len_set HL _ _, Hid.dg_set HDo _ hz, HR, hOk.set' hko _ (by omega), hBk.setCell (Nat.le_refl _) _⟩
      case measure => simp [intOf]; omega
    · obtain rfl : k = (digs x).length := by omega
      have HC2 : Hid (cr < B) := by
        have h1 := Hcr.out
        have h2 : (2 ^ n : Nat) ≤ 4294967296 := by rw [← pow_split hn]; exact Nat.le_mul_of_pos_left _ (Nat.two_pow_pos _)
        have : cr < B := by rw [B_eq]; omega
        exact this
      have hcr : cr < 4294967296 := HC2.out
      have HF : Hid (val (out.set (digs x).length cr) = x * 2 ^ n) := by
        have h1 := val_take_set out (digs x).length cr hko
        rw [List.take_of_length_le (by rw [List.length_set, HL.out]; omega), HV.out, List.take_length, val_digs] at h1
        exact h1
      have HL2 := Hid.len_set HL (digs x).length cr
      have HD2 := Hid.dg_set HDo (digs x).length HC2.out
      have hO2 := hOk.set hko cr
      have hB2 := hBk.setCell (Nat.le_refl _) (p := ⟨w.heap.size, (digs x).length, none⟩) (.int .u32 (cr : Int))
      clear HL HDo HV hOk hBk
      go_wp2
      go_ret
      exact ⟨_, _, rfl, Nat.le_refl _, HL2.out, HD2.out, HF.out, hO2, hB2⟩
set_option maxHeartbeats 8000000 in
theorem lowered_at (x n : Nat) (v : Value) (w : World) (hx : N w v x) (hxl : wlen x ≤ 1000000000) (hn : n < 32) : Calls Tryz.prog 186 #[v, .int .i64 (n : Int)] w (NPost w (x / 2 ^ n)) := by
  obtain ⟨a, c, rfl, s1⟩ := hx.open_
  obtain ⟨p1, p2⟩ := sl_caps s1
  have HX := Lib.hid (digs_dg x)
  unfold wlen at hxl
  clear hx
  go_enter Tryz.func186, Tryz.ntmps186
  go_wp2_with (refine wpList_make_words rfl _ _ rfl (digs x).length rfl rfl ?_ ?_ ?_; rotate_left 2; intro W hO hB hsz)
  case refine_1 => go_num
  case refine_2 => omega
  clear hsz
  have HZ : Hid (val ((List.replicate (digs x).length 0).take 0) * 2 ^ n + wd (digs x) 0 % 2 ^ n = val ((digs x).take 0) + B ^ 0 * (wd (digs x) 0 % 2 ^ n)) := by
    have : val ((List.replicate (digs x).length 0).take 0) * 2 ^ n + wd (digs x) 0 % 2 ^ n = val ((digs x).take 0) + B ^ 0 * (wd (digs x) 0 % 2 ^ n) := by simp [val]
    exact this
  go_loopw [13] (fun iv wr => ∃ (k : Nat) (out : List Nat), k ≤ (digs x).length ∧ iv = .int .i64 k ∧ Hid (out.length = (digs x).length) ∧ Hid (Dg out) ∧ Hid (val (out.take k) * 2 ^ n + wd (digs x) 0 % 2 ^ n = val ((digs x).take k) + B ^ k * (wd (digs x) k % 2 ^ n)) ∧ Own wr w.heap.size out ∧ Below w.heap.size w wr) (fun iv _ => (digs x).length - (intOf iv).toNat)
  case atStart => exact ⟨0, List.replicate (digs x).length 0, by omega, rfl, by have := @List.length_replicate Nat (digs x).length 0; exact this, Dg.zeros _, HZ, hO, hB⟩
  case round =>
    obtain ⟨k, out, hk, rfl, HL, HDo, HV, hOk, hBk⟩ := hrel
    by_cases hlt : k < (digs x).length
    · have hko : k < out.length := by have := HL.out; omega
      have o0 := hOk.cell hko
      have o1 := hOk.frozen k
      obtain ⟨b, o, rfl, e0⟩ := sl_addr (s1.ext hBk) (wcs_get hlt)
      have hX := HX.out.get hlt
      have HV1 := Lib.hid (val_take_wd (digs x) k)
      have HW := Lib.hid (wd_get hlt)
      by_cases hlt2 : k + 1 < (digs x).length
      · obtain ⟨b', o', hbo, f0⟩ := sl_addr (s1.ext hBk) (wcs_get hlt2)
        cases hbo
        have hY := HX.out.get hlt2
        have HW2 := Lib.hid (wd_get hlt2)
        generalize (digs x)[k] = X at *
        generalize (digs x)[k + 1] = Y at *
        rw [B_eq] at hX hY
        obtain ⟨z, t1, hz, hzz⟩ := low_word hX hY hn
        have HR : Hid (val ((out.set k z).take (k + 1)) * 2 ^ n + wd (digs x) 0 % 2 ^ n = val ((digs x).take (k + 1)) + B ^ (k + 1) * (wd (digs x) (k + 1) % 2 ^ n)) := by
          have : val ((out.set k z).take (k + 1)) * 2 ^ n + wd (digs x) 0 % 2 ^ n = val ((digs x).take (k + 1)) + B ^ (k + 1) * (wd (digs x) (k + 1) % 2 ^ n) := by
            rw [val_take_set out k _ hko, HV1.out, Nat.pow_succ, HW2.out, HW.out]
            exact low_step (by have := HV.out; rw [HW.out] at this; exact this) hzz
          exact this
        clear HV HV1 HW HW2 hzz
        go_wp2
        go_roundw
        case rel => exact ⟨k + 1, out.set k z, by omega, by go_num, Hid.len_set HL _ _, Hid.dg_set HDo _ hz, HR, hOk.set' hko _ (by omega), hBk.setCell (Nat.le_refl _) _⟩
        case measure => simp [intOf]; omega
      · have HW2 := Lib.hid (wd_past (l := digs x) (k := k + 1) (by omega))
        generalize (digs x)[k] = X at *
        rw [B_eq] at hX
        obtain ⟨z, t1, hz, hzz⟩ := low_word0 hX hn
        have HR : Hid (val ((out.set k z).take (k + 1)) * 2 ^ n + wd (digs x) 0 % 2 ^ n = val ((digs x).take (k + 1)) + B ^ (k + 1) * (wd (digs x) (k + 1) % 2 ^ n)) := by
          have : val ((out.set k z).take (k + 1)) * 2 ^ n + wd (digs x) 0 % 2 ^ n = val ((digs x).take (k + 1)) + B ^ (k + 1) * (wd (digs x) (k + 1) % 2 ^ n) := by
            rw [val_take_set out k _ hko, HV1.out, Nat.pow_succ, HW2.out, HW.out]
            exact low_step (by have := HV.out; rw [HW.out] at this; exact this) hzz
          exact this
        clear HV HV1 HW HW2 hzz
        go_wp2
        go_roundw
        case rel => exact ⟨k + 1, out.set k z, by omega, by go_num, Hid.len_set HL _ _, Hid.dg_set HDo _ hz, HR, hOk.set' hko _ (by omega), hBk.setCell (Nat.le_refl _) _⟩
        case measure => simp [intOf]; omega
    · obtain rfl : k = (digs x).length := by omega
      have HF : Hid (val out = x / 2 ^ n) := by
        have h1 := HV.out
        rw [List.take_of_length_le (by rw [HL.out]; omega), List.take_length, val_digs, wd_past (l := digs x) (k := (digs x).length) (Nat.le_refl _)] at h1
        have : val out = x / 2 ^ n := by
          have hp := Nat.two_pow_pos n
          rw [Nat.zero_mod, Nat.mul_zero, Nat.add_zero] at h1
          rw [← h1, Nat.add_comm, Nat.add_mul_div_right _ _ hp, Nat.div_eq_of_lt (Nat.mod_lt _ hp), Nat.zero_add]
        exact this
      clear HV
      go_wp2_with fail
      have hs := hOk.sl (c := (digs x).length) (by rw [HL.out]; omega) (by unfold maxLen; omega)
      have hT := trim_at out HDo.out _ _ hs
      rw [HL.out, HF.out] at hT
      refine Calls.mono hT ?_
      rintro e w' ⟨v, rfl, hv, rfl⟩
      clear hT hs
      go_wp2
      go_ret
      exact ⟨_, rfl, hv, hBk⟩
end Nm
end Go.Proofs.YtilolnjbpokdnaaGreatDoor
