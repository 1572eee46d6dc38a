/- Add, Less of package value. -/
import Derived.Test.YtkinapdfmgfdfaaBig1
namespace Go.Proofs.Ytkinapdfmgfdfaa
open Go.RowKit
namespace Nm
set_option maxHeartbeats 4000000 in
theorem add_body (x y : Nat) (v u : Value) (w : World) (hx : N w v x) (hy : N w u y) (hxl : wlen x ≤ 1000000000) (hl : wlen y ≤ wlen x) : Calls Try.prog 35 #[v, u] w (NPost w (x + y)) := by
  obtain ⟨a, c, rfl, s1⟩ := hx.open_
  obtain ⟨a', c', rfl, s2⟩ := hy.open_
  obtain ⟨p1, p2⟩ := sl_caps s1
  obtain ⟨q1, q2⟩ := sl_caps s2
  have HX := Lib.hid (digs_dg x)
  have HY := Lib.hid (digs_dg y)
  unfold wlen at hl hxl
  clear hx hy
  go_enter Try.func35, Try.ntmps35
  go_wp2_with (refine wpList_make_words rfl _ _ rfl ((digs x).length + 1) rfl rfl ?_ ?_ ?_; rotate_left 2; intro W hO hB hsz)
  case refine_1 => go_num
  case refine_2 => omega
  clear hsz
  have HZ : Hid (val ((List.replicate ((digs x).length + 1) 0).take 0) + B ^ 0 * 0 = val ((digs x).take 0) + val ((digs y).take 0)) := by
    have : val ((List.replicate ((digs x).length + 1) 0).take 0) + B ^ 0 * 0 = val ((digs x).take 0) + val ((digs y).take 0) := by simp [val]
    exact this
  go_loopw [6, 22] (fun cv iv wr => ∃ (k cr : Nat) (out : List Nat), k ≤ (digs x).length ∧ iv = .int .i64 k ∧ cv = .int .u64 cr ∧ cr ≤ 1 ∧ Hid (out.length = (digs x).length + 1) ∧ Hid (Dg out) ∧ Hid (val (out.take k) + B ^ k * cr = val ((digs x).take k) + val ((digs y).take k)) ∧ Own wr w.heap.size out ∧ Below w.heap.size w wr) (fun _ iv _ => (digs x).length - (intOf iv).toNat)
  case atStart => exact ⟨0, 0, List.replicate ((digs x).length + 1) 0, by omega, rfl, rfl, by omega, by have := @List.length_replicate Nat ((digs x).length + 1) 0; exact this, Dg.zeros _, HZ, hO, hB⟩
  case round =>
    obtain ⟨k, cr, out, hk, rfl, rfl, hcr, HL, HDo, HV, hOk, hBk⟩ := hrel
    have hko : k < out.length := by have := HL.out; omega
    have o0 := hOk.cell hko
    have o1 := hOk.frozen k
    by_cases hlt : k < (digs x).length
    · obtain ⟨b, o, rfl, e0⟩ := sl_addr (s1.ext hBk) (wcs_get hlt)
      have hX := HX.out.get hlt
      have hV1 := val_take_succ (digs x) k hlt
      have hV2 := val_take_wd (digs y) k
      by_cases hly : k < (digs y).length
      · obtain ⟨b', o', rfl, f0⟩ := sl_addr (s2.ext hBk) (wcs_get hly)
        have hY := HY.out.get hly
        rw [wd_get hly] at hV2
        generalize (digs x)[k] = X at *
        generalize (digs y)[k] = Y at *
        rw [B_eq] at hX hY
        have HR : Hid (val ((out.set k ((cr + X + Y) % 4294967296)).take (k + 1)) + B ^ (k + 1) * ((cr + X + Y) / 4294967296) = val ((digs x).take (k + 1)) + val ((digs y).take (k + 1))) := by
          have := add_step (x := X) (y := Y) HV.out
          rw [← hV1, ← hV2, ← val_take_set out k _ hko, B_eq] at this
          exact this
        clear hV1 hV2
        go_wp2
        go_roundw
        case rel => exact ⟨k + 1, (cr + X + Y) / 4294967296, out.set k ((cr + X + Y) % 4294967296), by omega, by go_num, by go_num, by omega, Hid.len_set HL _ _, Hid.dg_set HDo _ (Nat.mod_lt _ B_pos), HR, hOk.set' hko _ (by omega), hBk.setCell (Nat.le_refl _) _⟩
        case measure => simp [intOf]; omega
      · rw [wd_past (by omega)] at hV2
        generalize (digs x)[k] = X at *
        rw [B_eq] at hX
        have HR : Hid (val ((out.set k ((cr + X) % 4294967296)).take (k + 1)) + B ^ (k + 1) * ((cr + X) / 4294967296) = val ((digs x).take (k + 1)) + val ((digs y).take (k + 1))) := by
          have := add_step (x := X) (y := 0) HV.out
          rw [← hV1, ← hV2, Nat.add_zero, ← val_take_set out k _ hko, B_eq] at this
          exact this
        clear hV1 hV2
        go_wp2
        go_roundw
        case rel => exact ⟨k + 1, (cr + X) / 4294967296, out.set k ((cr + X) % 4294967296), by omega, by go_num, by go_num, by omega, Hid.len_set HL _ _, Hid.dg_set HDo _ (Nat.mod_lt _ B_pos), HR, hOk.set' hko _ (by omega), hBk.setCell (Nat.le_refl _) _⟩
        case measure => simp [intOf]; omega
    · obtain rfl : k = (digs x).length := by omega
      have HF : Hid (val (out.set (digs x).length cr) = x + y) := by
        have h1 := val_take_set out (digs x).length cr hko
        rw [List.take_of_length_le (by rw [List.length_set, HL.out]; omega), HV.out, List.take_length, List.take_of_length_le hl, val_digs, val_digs] at h1
        exact h1
      have HL2 := Hid.len_set HL (digs x).length cr
      have HD2 := Hid.dg_set HDo (digs x).length (x := cr) (by rw [B_eq]; omega)
      have hO2 := hOk.set hko cr
      have hB2 := hBk.setCell (Nat.le_refl _) (p := ⟨w.heap.size, (digs x).length, none⟩) (.int .u32 (cr : Int))
      clear HL HDo HV hOk hBk
      go_wp2_with fail
      generalize out.set (digs x).length cr = fin at *
      have hs := hO2.sl (c := (digs x).length + 1) (by rw [HL2.out]; omega) (by unfold maxLen; omega)
      have hT := trim_at fin HD2.out _ _ hs
      rw [HL2.out, HF.out] at hT
      refine Calls.mono hT ?_
      rintro e w' ⟨v, rfl, hv, rfl⟩
      clear hT hs
      go_wp2
      go_ret
      exact ⟨_, rfl, hv, hB2⟩
set_option maxHeartbeats 4000000 in
theorem add_body2 (x y : Nat) (v u : Value) (w : World) (hx : N w v x) (hy : N w u y) (hxl : wlen x ≤ 1000000000) (hl : wlen y < wlen x) : Calls Try.prog 35 #[u, v] w (NPost w (x + y)) := by
  obtain ⟨a, c, rfl, s1⟩ := hx.open_
  obtain ⟨a', c', rfl, s2⟩ := hy.open_
  obtain ⟨p1, p2⟩ := sl_caps s1
  obtain ⟨q1, q2⟩ := sl_caps s2
  have HX := Lib.hid (digs_dg x)
  have HY := Lib.hid (digs_dg y)
  unfold wlen at hl hxl
  clear hx hy
  go_enter Try.func35, Try.ntmps35
  go_wp2_with (refine wpList_make_words rfl _ _ rfl ((digs x).length + 1) rfl rfl ?_ ?_ ?_; rotate_left 2; intro W hO hB hsz)
  case refine_1 => go_num
  case refine_2 => omega
  clear hsz
  have HZ : Hid (val ((List.replicate ((digs x).length + 1) 0).take 0) + B ^ 0 * 0 = val ((digs x).take 0) + val ((digs y).take 0)) := by
    have : val ((List.replicate ((digs x).length + 1) 0).take 0) + B ^ 0 * 0 = val ((digs x).take 0) + val ((digs y).take 0) := by simp [val]
    exact this
  go_loopw [6, 22] (fun cv iv wr => ∃ (k cr : Nat) (out : List Nat), k ≤ (digs x).length ∧ iv = .int .i64 k ∧ cv = .int .u64 cr ∧ cr ≤ 1 ∧ Hid (out.length = (digs x).length + 1) ∧ Hid (Dg out) ∧ Hid (val (out.take k) + B ^ k * cr = val ((digs x).take k) + val ((digs y).take k)) ∧ Own wr w.heap.size out ∧ Below w.heap.size w wr) (fun _ iv _ => (digs x).length - (intOf iv).toNat)
  case atStart => exact ⟨0, 0, List.replicate ((digs x).length + 1) 0, by omega, rfl, rfl, by omega, by have := @List.length_replicate Nat ((digs x).length + 1) 0; exact this, Dg.zeros _, HZ, hO, hB⟩
  case round =>
    obtain ⟨k, cr, out, hk, rfl, rfl, hcr, HL, HDo, HV, hOk, hBk⟩ := hrel
    have hko : k < out.length := by have := HL.out; omega
    have o0 := hOk.cell hko
    have o1 := hOk.frozen k
    by_cases hlt : k < (digs x).length
    · obtain ⟨b, o, rfl, e0⟩ := sl_addr (s1.ext hBk) (wcs_get hlt)
      have hX := HX.out.get hlt
      have hV1 := val_take_succ (digs x) k hlt
      have hV2 := val_take_wd (digs y) k
      by_cases hly : k < (digs y).length
      · obtain ⟨b', o', rfl, f0⟩ := sl_addr (s2.ext hBk) (wcs_get hly)
        have hY := HY.out.get hly
        rw [wd_get hly] at hV2
        generalize (digs x)[k] = X at *
        generalize (digs y)[k] = Y at *
        rw [B_eq] at hX hY
        have HR : Hid (val ((out.set k ((cr + X + Y) % 4294967296)).take (k + 1)) + B ^ (k + 1) * ((cr + X + Y) / 4294967296) = val ((digs x).take (k + 1)) + val ((digs y).take (k + 1))) := by
          have := add_step (x := X) (y := Y) HV.out
          rw [← hV1, ← hV2, ← val_take_set out k _ hko, B_eq] at this
          exact this
        clear hV1 hV2
        go_wp2
        go_roundw
        case rel => exact ⟨k + 1, (cr + X + Y) / 4294967296, out.set k ((cr + X + Y) % 4294967296), by omega, by go_num, by go_num, by omega, Hid.len_set HL _ _, Hid.dg_set HDo _ (Nat.mod_lt _ B_pos), HR, hOk.set' hko _ (by omega), hBk.setCell (Nat.le_refl _) _⟩
        case measure => simp [intOf]; omega
      · rw [wd_past (by omega)] at hV2
        generalize (digs x)[k] = X at *
        rw [B_eq] at hX
        have HR : Hid (val ((out.set k ((cr + X) % 4294967296)).take (k + 1)) + B ^ (k + 1) * ((cr + X) / 4294967296) = val ((digs x).take (k + 1)) + val ((digs y).take (k + 1))) := by
          have := add_step (x := X) (y := 0) HV.out
          rw [← hV1, ← hV2, Nat.add_zero, ← val_take_set out k _ hko, B_eq] at this
          exact this
        clear hV1 hV2
        go_wp2
        go_roundw
        case rel => exact ⟨k + 1, (cr + X) / 4294967296, out.set k ((cr + X) % 4294967296), by omega, by go_num, by go_num, by omega, Hid.len_set HL _ _, Hid.dg_set HDo _ (Nat.mod_lt _ B_pos), HR, hOk.set' hko _ (by omega), hBk.setCell (Nat.le_refl _) _⟩
        case measure => simp [intOf]; omega
    · obtain rfl : k = (digs x).length := by omega
      have HF : Hid (val (out.set (digs x).length cr) = x + y) := by
        have h1 := val_take_set out (digs x).length cr hko
        rw [List.take_of_length_le (by rw [List.length_set, HL.out]; omega), HV.out, List.take_length, List.take_of_length_le (Nat.le_of_lt hl), val_digs, val_digs] at h1
        exact h1
      have HL2 := Hid.len_set HL (digs x).length cr
      have HD2 := Hid.dg_set HDo (digs x).length (x := cr) (by rw [B_eq]; omega)
      have hO2 := hOk.set hko cr
      have hB2 := hBk.setCell (Nat.le_refl _) (p := ⟨w.heap.size, (digs x).length, none⟩) (.int .u32 (cr : Int))
      clear HL HDo HV hOk hBk
      go_wp2_with fail
      generalize out.set (digs x).length cr = fin at *
      have hs := hO2.sl (c := (digs x).length + 1) (by rw [HL2.out]; omega) (by unfold maxLen; omega)
      have hT := trim_at fin HD2.out _ _ hs
      rw [HL2.out, HF.out] at hT
      refine Calls.mono hT ?_
      rintro e w' ⟨v, rfl, hv, rfl⟩
      clear hT hs
      go_wp2
      go_ret
      exact ⟨_, rfl, hv, hB2⟩
theorem add_at (x y : Nat) (v u : Value) (w : World) (hx : N w v x) (hy : N w u y) (h1 : wlen x ≤ 1000000000) (h2 : wlen y ≤ 1000000000) : Calls Try.prog 35 #[v, u] w (NPost w (x + y)) := by
  by_cases h : wlen y ≤ wlen x
  · exact add_body x y v u w hx hy h1 h
  · rw [Nat.add_comm]; exact add_body2 y x u v w hy hx h2 (by omega)
end Nm
end Go.Proofs.Ytkinapdfmgfdfaa
