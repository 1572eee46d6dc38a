/- Times of package value. -/
import Derived.Test.YtkinapdfmgfdfaaBig3
namespace Go.Proofs.Ytkinapdfmgfdfaa
open Go.RowKit
namespace Nm
theorem mul_step {Pi Pk V V' V0 cr X Y O vk z q : Nat} (hset : V' + Pi * Pk * O = V + Pi * Pk * z) (hinv : V + Pi * Pk * cr = V0 + Pi * (X * vk)) (hs : z + B * q = cr + (X * Y + O)) : V' + Pi * (Pk * B) * q = V0 + Pi * (X * (vk + Pk * Y)) := by
  have e : Pi * Pk * (z + B * q) = Pi * Pk * (cr + (X * Y + O)) := by rw [hs]
  rw [Nat.mul_add, Nat.mul_add, Nat.mul_add] at e
  have e1 : Pi * (Pk * B) * q = Pi * Pk * (B * q) := by ac_rfl
  have e2 : Pi * (X * (vk + Pk * Y)) = Pi * (X * vk) + Pi * Pk * (X * Y) := by
    rw [Nat.mul_add, Nat.mul_add]; congr 1; ac_rfl
  omega
theorem mul_le {X Y : Nat} (hX : X < 4294967296) (hY : Y < 4294967296) : (X : Int) * (Y : Int) ≤ 18446744065119617025 ∧ 0 ≤ (X : Int) * (Y : Int) := by
  have h : X * Y ≤ 4294967295 * 4294967295 := Nat.mul_le_mul (by omega) (by omega)
  have h2 : ((X * Y : Nat) : Int) = (X : Int) * (Y : Int) := Int.natCast_mul _ _
  omega
theorem val_take_set_in (l : List Nat) (k y T : Nat) (h : k < T) (hT : T ≤ l.length) : val ((l.set k y).take T) + B ^ k * l[k]'(by omega) = val (l.take T) + B ^ k * y := by
  have h1 : k < (l.take T).length := by rw [List.length_take]; omega
  have := val_set (l.take T) k y h1
  rw [List.take_set]
  simpa using this
set_option maxHeartbeats 8000000 in
theorem times_at (x y : Nat) (v u : Value) (w : World) (hx : N w v x) (hy : N w u y) (hxl : wlen x ≤ 1000000000) (hyl : wlen y ≤ 1000000000) : Calls Try.prog 39 #[v, u] w (NPost w (x * y)) := by
  obtain ⟨a, c, rfl, s1⟩ := hx.open_
  obtain ⟨a', c', rfl, s2⟩ := hy.open_
  obtain ⟨p1, p2⟩ := sl_caps s1
  obtain ⟨q1, q2⟩ := sl_caps s2
  have HX := Lib.hid (digs_dg x)
  have HY := Lib.hid (digs_dg y)
  unfold wlen at hxl hyl
  clear hx hy
  go_enter Try.func39, Try.ntmps39
  go_wp2_with (refine wpList_make_words rfl _ _ rfl ((digs x).length + (digs y).length) rfl rfl ?_ ?_ ?_; rotate_left 2; intro W hO hB hsz)
  case refine_1 => go_num
  case refine_2 => omega
  clear hsz
  have HZ : Hid (val ((List.replicate ((digs x).length + (digs y).length) 0).take (0 + (digs y).length)) = val ((digs x).take 0) * y) := by
    have : val ((List.replicate ((digs x).length + (digs y).length) 0).take (0 + (digs y).length)) = val ((digs x).take 0) * y := by rw [List.take_replicate, val_zeros]; simp [val]
    exact this
  go_loopw [19] (fun iv wr => ∃ (i : Nat) (out : List Nat), i ≤ (digs x).length ∧ iv = .int .i64 i ∧ Hid (out.length = (digs x).length + (digs y).length) ∧ Hid (Dg out) ∧ Hid (val (out.take (i + (digs y).length)) = val ((digs x).take i) * y) ∧ Own wr w.heap.size out ∧ Below w.heap.size w wr) (fun iv _ => (digs x).length - (intOf iv).toNat)
  case atStart => exact ⟨0, List.replicate ((digs x).length + (digs y).length) 0, by omega, rfl, by have := @List.length_replicate Nat ((digs x).length + (digs y).length) 0; exact this, Dg.zeros _, HZ, hO, hB⟩
  case round =>
    obtain ⟨i, out0, hi, rfl, HL, HDo, HV, hOk, hBk⟩ := hrel
    by_cases hlt : i < (digs x).length
    · obtain ⟨b, o, rfl, e0⟩ := sl_addr (s1.ext hBk) (wcs_get hlt)
      have hX := HX.out.get hlt
      have HV1 := Lib.hid (val_take_succ (digs x) i hlt)
      generalize (digs x)[i] = X at *
      rw [B_eq] at hX
      have HZ2 : Hid (val (out0.take (i + (digs y).length)) + B ^ i * B ^ 0 * 0 = val ((digs x).take i) * y + B ^ i * (X * val ((digs y).take 0))) := by
        have : val (out0.take (i + (digs y).length)) + B ^ i * B ^ 0 * 0 = val ((digs x).take i) * y + B ^ i * (X * val ((digs y).take 0)) := by rw [HV.out]; simp [val]
        exact this
      clear HV
      go_wp2
      go_loopw [8, 26] (fun cv kv wr => ∃ (k cr : Nat) (out : List Nat), k ≤ (digs y).length ∧ kv = .int .i64 k ∧ cv = .int .u64 cr ∧ cr < 4294967296 ∧ Hid (out.length = (digs x).length + (digs y).length) ∧ Hid (Dg out) ∧ Hid (val (out.take (i + (digs y).length)) + B ^ i * B ^ k * cr = val ((digs x).take i) * y + B ^ i * (X * val ((digs y).take k))) ∧ Own wr w.heap.size out ∧ Below w.heap.size w wr) (fun _ kv _ => (digs y).length - (intOf kv).toNat)
      case atStart => exact ⟨0, 0, out0, by omega, rfl, rfl, by omega, HL, HDo, HZ2, hOk, hBk⟩
      case round =>
        clear hOk hBk HL HDo HZ2 e0
        obtain ⟨k, cr, out, hk, rfl, rfl, hcr, HL, HDo, HV, hOk, hBk⟩ := hrel
        by_cases hlk : k < (digs y).length
        · obtain ⟨b', o', rfl, f0⟩ := sl_addr (s2.ext hBk) (wcs_get hlk)
          have hY := HY.out.get hlk
          have hko : i + k < out.length := by have := HL.out; omega
          have o0 := hOk.cell hko
          have o1 := hOk.frozen (i + k)
          have hOo := HDo.out.get hko
          have hV2 := val_take_succ (digs y) k hlk
          have hset := fun z => val_take_set_in out (i + k) z (i + (digs y).length) (by omega) (by have := HL.out; omega)
          generalize out[i + k] = O at *
          generalize (digs y)[k] = Y at *
          rw [B_eq] at hY hOo
          obtain ⟨hm1, hm2⟩ := mul_le hX hY
          have hm3 : ((X * Y : Nat) : Int) = (X : Int) * (Y : Int) := Int.natCast_mul _ _
          have HR : Hid (val ((out.set (i + k) ((cr + (X * Y + O)) % 4294967296)).take (i + (digs y).length)) + B ^ i * B ^ (k + 1) * ((cr + (X * Y + O)) / 4294967296) = val ((digs x).take i) * y + B ^ i * (X * val ((digs y).take (k + 1)))) := by
            have h1 := hset ((cr + (X * Y + O)) % 4294967296)
            rw [Nat.pow_add] at h1
            have h2 := mul_step (Y := Y) h1 HV.out (q := (cr + (X * Y + O)) / 4294967296) (by rw [B_eq]; exact Nat.mod_add_div _ _)
            rw [hV2, Nat.pow_succ]; exact h2
          have HM := Lib.hid hm3
          clear hset hV2 hm3
          go_wp2
          go_roundw
          case rel => exact ⟨k + 1, (cr + (X * Y + O)) / 4294967296, out.set (i + k) ((cr + (X * Y + O)) % 4294967296), by omega, by go_num, by rw [← HM.out]; go_num, by have := HM.out; omega, Hid.len_set HL _ _, Hid.dg_set HDo _ (Nat.mod_lt _ B_pos), HR, hOk.set' hko _ (by rw [← HM.out]; omega), hBk.setCell (Nat.le_refl _) _⟩
          case measure => simp [intOf]; omega
        · obtain rfl : k = (digs y).length := by omega
          have hko : i + (digs y).length < out.length := by have := HL.out; omega
          have o0 := hOk.cell hko
          have o1 := hOk.frozen (i + (digs y).length)
          have HR : Hid (val ((out.set (i + (digs y).length) cr).take (i + 1 + (digs y).length)) = val ((digs x).take (i + 1)) * y) := by
            have h1 := val_take_set out (i + (digs y).length) cr hko
            have h2 := HV.out
            rw [List.take_length, val_digs] at h2
            rw [Nat.add_right_comm, h1, Nat.pow_add, h2, HV1.out, Nat.add_mul, Nat.mul_assoc]; exact Lib.hid rfl
          go_wp2
          go_roundw
          case rel => exact ⟨i + 1, out.set (i + (digs y).length) cr, by omega, by go_num, Hid.len_set HL _ _, Hid.dg_set HDo _ (by rw [B_eq]; omega), HR, hOk.set' hko _ (by omega), hBk.setCell (Nat.le_refl _) _⟩
          case measure => simp [intOf]; omega
    · obtain rfl : i = (digs x).length := by omega
      have HF : Hid (val out0 = x * y) := by
        have h1 := HV.out
        rw [List.take_of_length_le (by rw [HL.out]; omega), List.take_length, val_digs] at h1
        exact h1
      clear HV
      go_wp2_with fail
      have hs := hOk.sl (c := (digs x).length + (digs y).length) (by rw [HL.out]; omega) (by unfold maxLen; omega)
      have hT := trim_at out0 HDo.out _ _ hs
      rw [HL.out, HF.out] at hT
      refine Calls.mono hT ?_
      rintro e w' ⟨v, rfl, hv, rfl⟩
      clear hT hs
      go_wp2
      go_ret
      exact ⟨_, rfl, hv, hBk⟩
end Nm
end Go.Proofs.Ytkinapdfmgfdfaa
