/- Add, Less of package value. slices.Clone at words, Less of package value. Times of package value. -/
import Derived.Test.YtiieckboccbhhaaGreatDoorB902
namespace Go.Proofs.YtiieckboccbhhaaGreatDoor
open Go.RowKit
namespace Nm
set_option maxHeartbeats 4000000 in
theorem add_body (x y : Nat) (v u : Value) (w : World) (hx : N w v x) (hy : N w u y) (hxl : wlen x ≤ 1000000000) (hl : wlen y ≤ wlen x) : Calls Tryz.prog 40 #[v, u] w (NPost w (x + y)) := by
  obtain ⟨a, c, rfl, s1⟩ := hx.open_
  obtain ⟨a', c', rfl, s2⟩ := hy.open_
  obtain ⟨p1, p2⟩ := sl_caps s1
  obtain ⟨q1, q2⟩ := sl_caps s2
  have HX := Lib.hid (digs_dg x)
  have HY := Lib.hid (digs_dg y)
  unfold wlen at hl hxl
  clear hx hy
  go_enter Tryz.func40, Tryz.ntmps40
  go_wp2_with (refine wpList_make_words rfl _ _ rfl ((digs x).length + 1) rfl rfl ?_ ?_ ?_; rotate_left 2; intro W hO hB hsz)
  case refine_1 => go_num
  case refine_2 => omega
  clear hsz
  have HZ : Hid (val ((List.replicate ((digs x).length + 1) 0).take 0) + B ^ 0 * 0 = val ((digs x).take 0) + val ((digs y).take 0)) := by
    have : val ((List.replicate ((digs x).length + 1) 0).take 0) + B ^ 0 * 0 = val ((digs x).take 0) + val ((digs y).take 0) := by simp [val]
    exact this
  go_loopw [6, 22] (fun cv iv wr => ∃ (k cr : Nat) (out : List Nat), k ≤ (digs x).length ∧ iv = .int .i64 k ∧ cv = .int .u64 cr ∧ cr ≤ 1 ∧ Hid (out.length = (digs x).length + 1) ∧ Hid (Dg out) ∧ Hid (val (out.take k) + B ^ k * cr = val ((digs x).take k) + val ((digs y).take k)) ∧ Own wr w.heap.size out ∧ Below w.heap.size w wr) (fun _ iv _ => (digs x).length - (intOf iv).toNat)
  case atStart => exact ⟨0, 0, List.replicate ((digs x).length + 1) 0, by omega, rfl, rfl, by omega, by have := @List.length_replicate Nat ((digs x).length + 1) 0; exact this, Dg.zeros _, HZ, hO, hB⟩
  case round =>
    obtain ⟨k, cr, out, hk, rfl, rfl, hcr, HL, HDo, HV, hOk, hBk⟩ := hrel
    have hko : k < out.length := by have := HL.out; omega
    have o0 := hOk.cell hko
    have o1 := hOk.frozen k
    by_cases hlt : k < (digs x).length
    · obtain ⟨b, o, rfl, e0⟩ := sl_addr (s1.ext hBk) (wcs_get hlt)
      have hX := HX.out.get hlt
      have hV1 := val_take_succ (digs x) k hlt
      have hV2 := val_take_wd (digs y) k
      by_cases hly : k < (digs y).length
      · obtain ⟨b', o', rfl, f0⟩ := sl_addr (s2.ext hBk) (wcs_get hly)
        have hY := HY.out.get hly
        rw [wd_get hly] at hV2
        generalize (digs x)[k] = X at *
        generalize (digs y)[k] = Y at *
        rw [B_eq] at hX hY
        have HR : Hid (val ((out.set k ((cr + X + Y) % 4294967296)).take (k + 1)) + B ^ (k + 1) * ((cr + X + Y) / 4294967296) = val ((digs x).take (k + 1)) + val ((digs y).take (k + 1))) := by
          have := add_step (x := X) (y := Y) HV.out
          rw [← hV1, ← hV2, ← val_take_set out k _ hko, B_eq] at this
          exact this
        clear hV1 hV2
        go_wp2
        go_roundw
        case rel => exact ⟨k + 1, (cr + X + Y) / 4294967296, out.set k ((cr + X + Y) % 4294967296), by omega, by go_num, by go_num, by omega, Hid.len_set HL _ _, Hid.dg_set HDo _ (Nat.mod_lt _ B_pos), HR, hOk.set' hko _ (by omega), hBk.setCell (Nat.le_refl _) _⟩
        case measure => simp [intOf]; omega
      · rw [wd_past (by omega)] at hV2
        generalize (digs x)[k] = X at *
        rw [B_eq] at hX
        have HR : Hid (val ((out.set k ((cr + X) % 4294967296)).take (k + 1)) + B ^ (k + 1) * ((cr + X) / 4294967296) = val ((digs x).take (k + 1)) + val ((digs y).take (k + 1))) := by
          have := add_step (x := X) (y := 0) HV.out
          rw [← hV1, ← hV2, Nat.add_zero, ← val_take_set out k _ hko, B_eq] at this
          exact this
        clear hV1 hV2
        go_wp2
        go_roundw
        case rel => exact ⟨k + 1, (cr + X) / 4294967296, out.set k ((cr + X) % 4294967296), by omega, by go_num, by go_num, by omega, Hid.len_set HL _ _, Hid.dg_set HDo _ (Nat.mod_lt _ B_pos), HR, hOk.set' hko _ (by omega), hBk.setCell (Nat.le_refl _) _⟩
        case measure => simp [intOf]; omega
    · obtain rfl : k = (digs x).length := by omega
      have HF : Hid (val (out.set (digs x).length cr) = x + y) := by
        have h1 := val_take_set out (digs x).length cr hko
        rw [List.take_of_length_le (by rw [List.length_set, HL.out]; omega), HV.out, List.take_length, List.take_of_length_le hl, val_digs, val_digs] at h1
        exact h1
      have HL2 := Hid.len_set HL (digs x).length cr
      have HD2 := Hid.dg_set HDo (digs x).length (x := cr) (by rw [B_eq]; omega)
      have hO2 := hOk.set hko cr
      have hB2 := hBk.setCell (Nat.le_refl _) (p := ⟨w.heap.size, (digs x).length, none⟩) (.int .u32 (cr : Int))
      clear HL HDo HV hOk hBk
      go_wp2_with fail
      generalize out.set (digs x).length cr = fin at *
      have hs := hO2.sl (c := (digs x).length + 1) (by rw [HL2.out]; omega) (by unfold maxLen; omega)
      have hT := trim_at fin HD2.out _ _ hs
      rw [HL2.out, HF.out] at hT
      refine Calls.mono hT ?_
      rintro e w' ⟨v, rfl, hv, rfl⟩
      clear hT hs
      go_wp2
      go_ret
      exact ⟨_, rfl, hv, hB2⟩
set_option maxHeartbeats 4000000 in
theorem add_body2 (x y : Nat) (v u : Value) (w : World) (hx : N w v x) (hy : N w u y) (hxl : wlen x ≤ 1000000000) (hl : wlen y < wlen x) : Calls Tryz.prog 40 #[u, v] w (NPost w (x + y)) := by
  obtain ⟨a, c, rfl, s1⟩ := hx.open_
  obtain ⟨a', c', rfl, s2⟩ := hy.open_
  obtain ⟨p1, p2⟩ := sl_caps s1
  obtain ⟨q1, q2⟩ := sl_caps s2
  have HX := Lib.hid (digs_dg x)
  have HY := Lib.hid (digs_dg y)
  unfold wlen at hl hxl
  clear hx hy
  go_enter Tryz.func40, Tryz.ntmps40
  go_wp2_with (refine wpList_make_words rfl _ _ rfl ((digs x).length + 1) rfl rfl ?_ ?_ ?_; rotate_left 2; intro W hO hB hsz)
  case refine_1 => go_num
  case refine_2 => omega
  clear hsz
  have HZ : Hid (val ((List.replicate ((digs x).length + 1) 0).take 0) + B ^ 0 * 0 = val ((digs x).take 0) + val ((digs y).take 0)) := by
    have : val ((List.replicate ((digs x).length + 1) 0).take 0) + B ^ 0 * 0 = val ((digs x).take 0) + val ((digs y).take 0) := by simp [val]
    exact this
  go_loopw [6, 22] (fun cv iv wr => ∃ (k cr : Nat) (out : List Nat), k ≤ (digs x).length ∧ iv = .int .i64 k ∧ cv = .int .u64 cr ∧ cr ≤ 1 ∧ Hid (out.length = (digs x).length + 1) ∧ Hid (Dg out) ∧ Hid (val (out.take k) + B ^ k * cr = val ((digs x).take k) + val ((digs y).take k)) ∧ Own wr w.heap.size out ∧ Below w.heap.size w wr) (fun _ iv _ => (digs x).length - (intOf iv).toNat)
  case atStart => exact ⟨0, 0, List.replicate ((digs x).length + 1) 0, by omega, rfl, rfl, by omega, by have := @List.length_replicate Nat ((digs x).length + 1) 0; exact this, Dg.zeros _, HZ, hO, hB⟩
  case round =>
    obtain ⟨k, cr, out, hk, rfl, rfl, hcr, HL, HDo, HV, hOk, hBk⟩ := hrel
    have hko : k < out.length := by have := HL.out; omega
    have o0 := hOk.cell hko
    have o1 := hOk.frozen k
    by_cases hlt : k < (digs x).length
    · obtain ⟨b, o, rfl, e0⟩ := sl_addr (s1.ext hBk) (wcs_get hlt)
      have hX := HX.out.get hlt
      have hV1 := val_take_succ (digs x) k hlt
      have hV2 := val_take_wd (digs y) k
      by_cases hly : k < (digs y).length
      · obtain ⟨b', o', rfl, f0⟩ := sl_addr (s2.ext hBk) (wcs_get hly)
        have hY := HY.out.get hly
        rw [wd_get hly] at hV2
        generalize (digs x)[k] = X at *
        generalize (digs y)[k] = Y at *
        rw [B_eq] at hX hY
        have HR : Hid (val ((out.set k ((cr + X + Y) % 4294967296)).take (k + 1)) + B ^ (k + 1) * ((cr + X + Y) / 4294967296) = val ((digs x).take (k + 1)) + val ((digs y).take (k + 1))) := by
          have := add_step (x := X) (y := Y) HV.out
          rw [← hV1, ← hV2, ← val_take_set out k _ hko, B_eq] at this
          exact this
        clear hV1 hV2
        go_wp2
        go_roundw
        case rel => exact ⟨k + 1, (cr + X + Y) / 4294967296, out.set k ((cr + X + Y) % 4294967296), by omega, by go_num, by go_num, by omega, Hid.len_set HL _ _, Hid.dg_set HDo _ (Nat.mod_lt _ B_pos), HR, hOk.set' hko _ (by omega), hBk.setCell (Nat.le_refl _) _⟩
        case measure => simp [intOf]; omega
      · rw [wd_past (by omega)] at hV2
        generalize (digs x)[k] = X at *
        rw [B_eq] at hX
        have HR : Hid (val ((out.set k ((cr + X) % 4294967296)).take (k + 1)) + B ^ (k + 1) * ((cr + X) / 4294967296) = val ((digs x).take (k + 1)) + val ((digs y).take (k + 1))) := by
          have := add_step (x := X) (y := 0) HV.out
          rw [← hV1, ← hV2, Nat.add_zero, ← val_take_set out k _ hko, B_eq] at this
          exact this
        clear hV1 hV2
        go_wp2
        go_roundw
        case rel => exact ⟨k + 1, (cr + X) / 4294967296, out.set k ((cr + X) % 4294967296), by omega, by go_num, by go_num, by omega, Hid.len_set HL _ _, Hid.dg_set HDo _ (Nat.mod_lt _ B_pos), HR, hOk.set' hko _ (by omega), hBk.setCell (Nat.le_refl _) _⟩
        case measure => simp [intOf]; omega
    · obtain rfl : k = (digs x).length := by omega
      have HF : Hid (val (out.set (digs x).length cr) = x + y) := by
        have h1 := val_take_set out (digs x).length cr hko
        rw [List.take_of_length_le (by rw [List.length_set, HL.out]; omega), HV.out, List.take_length, List.take_of_length_le (Nat.le_of_lt hl), val_digs, val_digs] at h1
        exact h1
      have HL2 := Hid.len_set HL (digs x).length cr
      have HD2 := Hid.dg_set HDo (digs x).length (x := cr) (by rw [B_eq]; omega)
      have hO2 := hOk.set hko cr
      have hB2 := hBk.setCell (Nat.le_refl _) (p := ⟨w.heap.size, (digs x).length, none⟩) (.int .u32 (cr : Int))
      clear HL HDo HV hOk hBk
      go_wp2_with fail
      generalize out.set (digs x).length cr = fin at *
      have hs := hO2.sl (c := (digs x).length + 1) (by rw [HL2.out]; omega) (by unfold maxLen; omega)
      have hT := trim_at fin HD2.out _ _ hs
      rw [HL2.out, HF.out] at hT
      refine Calls.mono hT ?_
      rintro e w' ⟨v, rfl, hv, rfl⟩
      clear hT hs
      go_wp2
      go_ret
      exact ⟨_, rfl, hv, hB2⟩
theorem add_at (x y : Nat) (v u : Value) (w : World) (hx : N w v x) (hy : N w u y) (h1 : wlen x ≤ 1000000000) (h2 : wlen y ≤ 1000000000) : Calls Tryz.prog 40 #[v, u] w (NPost w (x + y)) := by
  by_cases h : wlen y ≤ wlen x
  · exact add_body x y v u w hx hy h1 h
  · rw [Nat.add_comm]; exact add_body2 y x u v w hy hx h2 (by omega)
end Nm
end Go.Proofs.YtiieckboccbhhaaGreatDoor
namespace Go.Proofs.YtiieckboccbhhaaGreatDoor
open Go.RowKit
namespace Nm
/-- a copy of the call's own -/
def ClonePost (w : World) (l : List Nat) (e : Ending) (w' : World) : Prop :=
  ∃ b c, e = .returned (.slice (some ⟨b, 0, none⟩) l.length c) ∧ w.heap.size ≤ b ∧ l.length ≤ c ∧ c ≤ maxLen ∧ Own w' b l ∧ Below w.heap.size w w'
set_option maxHeartbeats 2000000 in
theorem clone_at (l : List Nat) (a : Option Addr) (c : Nat) (w : World) (hs : Sl w (.slice a l.length c) l.length (wcs l)) (hl : 0 < l.length) (hb : l.length ≤ 1000000000) : Calls Tryz.prog 129 #[.slice a l.length c] w (ClonePost w l) := by
  obtain ⟨b, o, rfl, e0⟩ := sl_addr hs (wcs_get hl)
  have hnil := fun wx => Lib.run_eql_slice_nil (P := Tryz.prog) wx 40 92 (some ⟨b, o, none⟩) l.length c 0 0 Tryz.underlying40
  have HB := Lib.hid u32_info
  clear e0
  go_enter Tryz.func129, Tryz.ntmps129
  have hown0 : (w.alloc (Obj.cells #[] 92)).ownsRow w.heap.size 92 1 (.slice (some ⟨w.heap.size, 0, none⟩) 0 0) 0 [] := ⟨rfl, .inr ⟨w.heap.size, 0, #[], rfl, Nat.le_refl _, heap_alloc_new w _, Nat.le_refl _, Nat.zero_le _, rfl, rfl⟩⟩
  have hs2 := hs.ext (w' := w.alloc (Obj.cells #[] 92)) (by go_grown)
  go_wp2_with (at_builtin; refine wpList_append_sl rfl _ _ 40 rfl w.heap.size 92 Tryz.underlying40 HB.out rfl (by decide) rfl hown0 rfl hs2 ?c1 (wcs_one _) ?c2 ?c3 ?c4 ?_; rotate_left 4; intro v2 w2 hown2 hg2 hv2)
  case c1 => rw [wcs_length, Nat.mul_one]
  case c2 => unfold maxLen; omega
  case c3 => omega
  case c4 => simp
  have hb2 : Below w.heap.size w w2 := Below.grown (show Below w.heap.size w (w.alloc (Obj.cells #[] 92)) by go_grown) hg2 (by simp) (fun k e => by cases e; exact Nat.le_refl _)
  rw [List.nil_append, Nat.zero_add] at hown2
  obtain ⟨g, cap, rfl, h1, h2, h3, h4⟩ := Own.ofRow hown2 hl
  clear hown0 hs2 hown2 hg2 hv2
  go_wp2
  go_ret
  exact ⟨g, cap, rfl, h1, h2, h3, h4, hb2⟩
/-- a step of the difference -/
theorem sub_step {P V A C br br' X Y z : Nat} (h : V + C = A + P * br) (hz : z + Y + br = X + B * br') : (V + P * z) + (C + P * Y) = (A + P * X) + P * B * br' := by
  have e : P * (z + Y + br) = P * (X + B * br') := by rw [hz]
  rw [Nat.mul_add, Nat.mul_add, Nat.mul_add, ← Nat.mul_assoc] at e
  omega
theorem less_end {V y x n br : Nat} (hV : V < n) (h : V + y = x + n * br) (hle : y ≤ x) (hb : br ≤ 1) : V = x - y := by
  obtain rfl | rfl : br = 0 ∨ br = 1 := by omega
  · omega
  · rw [Nat.mul_one] at h; omega
set_option maxHeartbeats 8000000 in
theorem less_at (x y : Nat) (v u : Value) (w : World) (hx : N w v x) (hy : N w u y) (hxl : wlen x ≤ 1000000000) (hle : y ≤ x) (h0 : 0 < x) : Calls Tryz.prog 94 #[v, u] w (NPost w (x - y)) := by
  have hl := wlen_mono hle
  have hpos : 0 < wlen x := by have := @wlen_eq_zero x; omega
  obtain ⟨a, c, rfl, s1⟩ := hx.open_
  obtain ⟨a', c', rfl, s2⟩ := hy.open_
  obtain ⟨p1, p2⟩ := sl_caps s1
  obtain ⟨q1, q2⟩ := sl_caps s2
  have HX := Lib.hid (digs_dg x)
  have HY := Lib.hid (digs_dg y)
  unfold wlen at hl hxl hpos
  clear hx hy
  go_enter Tryz.func94, Tryz.ntmps94
  go_wp2_with fail
  refine (clone_at (digs x) a c w s1 hpos hxl).mono ?_
  rintro e W ⟨b, cc, rfl, hbb, hc1, hc2, hO, hB⟩
  have hc3 := hc2
  unfold maxLen at hc3
  have HZ : Hid (val ((digs x).take 0) + val ((digs y).take 0) = val ((digs x).take 0) + B ^ 0 * 0) := by
    have : val ((digs x).take 0) + val ((digs y).take 0) = val ((digs x).take 0) + B ^ 0 * 0 := by simp [val]
    exact this
  go_wp2
  go_loopw [6, 14] (fun cv iv wr => ∃ (k br : Nat) (out : List Nat), k ≤ (digs x).length ∧ iv = .int .i64 k ∧ cv = .int .u64 br ∧ br ≤ 1 ∧ Hid (out.length = (digs x).length) ∧ Hid (Dg out) ∧ Hid (out.drop k = (digs x).drop k) ∧ Hid (val (out.take k) + val ((digs y).take k) = val ((digs x).take k) + B ^ k * br) ∧ Own wr b out ∧ Below w.heap.size w wr) (fun _ iv _ => (digs x).length - (intOf iv).toNat)
  case atStart => exact ⟨0, 0, digs x, by omega, rfl, rfl, by omega, Lib.hid rfl, HX, Lib.hid rfl, HZ, hO, hB⟩
  case round =>
    obtain ⟨k, br, out, hk, rfl, rfl, hbr, HL, HDo, HDR, HV, hOk, hBk⟩ := hrel
    by_cases hlt : k < (digs x).length
    · have hko : k < out.length := by have := HL.out; omega
      have o0 := hOk.cell hko
      have o1 := hOk.frozen k
      have hX := HX.out.get hlt
      have hV1 := val_take_succ (digs x) k hlt
      have hV2 := val_take_wd (digs y) k
      have hXe : out[k] = (digs x)[k] := by
        have := HDR.out
        rw [List.drop_eq_getElem_cons hko, List.drop_eq_getElem_cons hlt] at this
        exact (List.cons.inj this).1
      have HDR2 : ∀ z, Hid ((out.set k z).drop (k + 1) = (digs x).drop (k + 1)) := fun z => by
        have h1 := HDR.out
        rw [List.drop_eq_getElem_cons hko, List.drop_eq_getElem_cons hlt] at h1
        have : (out.set k z).drop (k + 1) = (digs x).drop (k + 1) := by rw [List.drop_set_of_lt (by omega)]; exact (List.cons.inj h1).2
        exact this
      have HST : ∀ z Y br', Hid (wd (digs y) k = Y → z + Y + br = (digs x)[k] + B * br' → val ((out.set k z).take (k + 1)) + val ((digs y).take (k + 1)) = val ((digs x).take (k + 1)) + B ^ (k + 1) * br') := fun z Y br' => by
        have : wd (digs y) k = Y → z + Y + br = (digs x)[k] + B * br' → val ((out.set k z).take (k + 1)) + val ((digs y).take (k + 1)) = val ((digs x).take (k + 1)) + B ^ (k + 1) * br' := fun hY hz => by
          rw [val_take_set out k _ hko, hV1, hV2, hY, Nat.pow_succ]
          exact sub_step HV.out hz
        exact this
      rw [hXe] at o0
      clear hV1 hV2 hXe
      have HST' := Lib.hid HST
      have HDR' := Lib.hid HDR2
      clear HST HDR2
      by_cases hly : k < (digs y).length
      · obtain ⟨b', o', rfl, f0⟩ := sl_addr (s2.ext hBk) (wcs_get hly)
        have hY := HY.out.get hly
        have HWD := Lib.hid (wd_get hly)
        generalize (digs x)[k] = X at *
        generalize (digs y)[k] = Y at *
        rw [B_eq] at hX hY
        by_cases hc : X < br + Y
        · have HR := Lib.hid ((HST'.out (X + 4294967296 - (br + Y)) Y 1).out HWD.out (by rw [B_eq]; omega))
          have HD3 := (HDR'.out (X + 4294967296 - (br + Y)))
          clear HST' HDR'
          go_wp2
          go_roundw
          case rel => exact ⟨k + 1, 1, out.set k (X + 4294967296 - (br + Y)), by omega, by go_num, rfl, by omega, Hid.len_set HL _ _, Hid.dg_set HDo _ (by rw [B_eq]; omega), HD3, HR, hOk.set' hko _ (by omega), hBk.setCell hbb _⟩
          case measure => simp [intOf]; omega
        · have HR := Lib.hid ((HST'.out (X - (br + Y)) Y 0).out HWD.out (by rw [B_eq]; omega))
          have HD3 := (HDR'.out (X - (br + Y)))
          clear HST' HDR'
          go_wp2
          go_roundw
          case rel => exact ⟨k + 1, 0, out.set k (X - (br + Y)), by omega, by go_num, rfl, by omega, Hid.len_set HL _ _, Hid.dg_set HDo _ (by rw [B_eq]; omega), HD3, HR, hOk.set' hko _ (by omega), hBk.setCell hbb _⟩
          case measure => simp [intOf]; omega
      · have HWD := Lib.hid (wd_past (l := digs y) (k := k) (by omega))
        generalize (digs x)[k] = X at *
        rw [B_eq] at hX
        by_cases hc : X < br
        · have HR := Lib.hid ((HST'.out (X + 4294967296 - br) 0 1).out HWD.out (by rw [B_eq]; omega))
          have HD3 := (HDR'.out (X + 4294967296 - br))
          clear HST' HDR'
          go_wp2
          go_roundw
          case rel => exact ⟨k + 1, 1, out.set k (X + 4294967296 - br), by omega, by go_num, rfl, by omega, Hid.len_set HL _ _, Hid.dg_set HDo _ (by rw [B_eq]; omega), HD3, HR, hOk.set' hko _ (by omega), hBk.setCell hbb _⟩
          case measure => simp [intOf]; omega
        · have HR := Lib.hid ((HST'.out (X - br) 0 0).out HWD.out (by rw [B_eq]; omega))
          have HD3 := (HDR'.out (X - br))
          clear HST' HDR'
          go_wp2
          go_roundw
          case rel => exact ⟨k + 1, 0, out.set k (X - br), by omega, by go_num, rfl, by omega, Hid.len_set HL _ _, Hid.dg_set HDo _ (by rw [B_eq]; omega), HD3, HR, hOk.set' hko _ (by omega), hBk.setCell hbb _⟩
          case measure => simp [intOf]; omega
    · obtain rfl : k = (digs x).length := by omega
      have HF : Hid (val out = x - y) := by
        have h1 := HV.out
        have h2 := val_lt HDo.out
        rw [HL.out] at h2
        rw [List.take_of_length_le (by rw [HL.out]; omega), List.take_length, List.take_of_length_le hl, val_digs, val_digs] at h1
        exact less_end h2 h1 hle hbr
      clear HDR HV
      go_wp2_with fail
      have hs := hOk.sl (c := cc) (by rw [HL.out]; omega) hc2
      have hT := trim_at out HDo.out _ _ hs
      rw [HL.out, HF.out] at hT
      refine Calls.mono hT ?_
      rintro e w' ⟨v, rfl, hv, rfl⟩
      clear hT hs
      go_wp2
      go_ret
      exact ⟨_, rfl, hv, hBk⟩
end Nm
end Go.Proofs.YtiieckboccbhhaaGreatDoor
namespace Go.Proofs.YtiieckboccbhhaaGreatDoor
open Go.RowKit
namespace Nm
theorem mul_step {Pi Pk V V' V0 cr X Y O vk z q : Nat} (hset : V' + Pi * Pk * O = V + Pi * Pk * z) (hinv : V + Pi * Pk * cr = V0 + Pi * (X * vk)) (hs : z + B * q = cr + (X * Y + O)) : V' + Pi * (Pk * B) * q = V0 + Pi * (X * (vk + Pk * Y)) := by
  have e : Pi * Pk * (z + B * q) = Pi * Pk * (cr + (X * Y + O)) := by rw [hs]
  rw [Nat.mul_add, Nat.mul_add, Nat.mul_add] at e
  have e1 : Pi * (Pk * B) * q = Pi * Pk * (B * q) := by ac_rfl
  have e2 : Pi * (X * (vk + Pk * Y)) = Pi * (X * vk) + Pi * Pk * (X * Y) := by
    rw [Nat.mul_add, Nat.mul_add]; congr 1; ac_rfl
  omega
theorem mul_le {X Y : Nat} (hX : X < 4294967296) (hY : Y < 4294967296) : (X : Int) * (Y : Int) ≤ 18446744065119617025 ∧ 0 ≤ (X : Int) * (Y : Int) := by
  have h : X * Y ≤ 4294967295 * 4294967295 := Nat.mul_le_mul (by omega) (by omega)
  have h2 : ((X * Y : Nat) : Int) = (X : Int) * (Y : Int) := Int.natCast_mul _ _
  omega
theorem val_take_set_in (l : List Nat) (k y T : Nat) (h : k < T) (hT : T ≤ l.length) : val ((l.set k y).take T) + B ^ k * l[k]'(by omega) = val (l.take T) + B ^ k * y := by
  have h1 : k < (l.take T).length := by rw [List.length_take]; omega
  have := val_set (l.take T) k y h1
  rw [List.take_set]
  simpa using this
set_option maxHeartbeats 8000000 in
theorem times_at (x y : Nat) (v u : Value) (w : World) (hx : N w v x) (hy : N w u y) (hxl : wlen x ≤ 1000000000) (hyl : wlen y ≤ 1000000000) : Calls Tryz.prog 42 #[v, u] w (NPost w (x * y)) := by
  obtain ⟨a, c, rfl, s1⟩ := hx.open_
  obtain ⟨a', c', rfl, s2⟩ := hy.open_
  obtain ⟨p1, p2⟩ := sl_caps s1
  obtain ⟨q1, q2⟩ := sl_caps s2
  have HX := Lib.hid (digs_dg x)
  have HY := Lib.hid (digs_dg y)
  unfold wlen at hxl hyl
  clear hx hy
  go_enter Tryz.func42, Tryz.ntmps42
  go_wp2_with (refine wpList_make_words rfl _ _ rfl ((digs x).length + (digs y).length) rfl rfl ?_ ?_ ?_; rotate_left 2; intro W hO hB hsz)
  case refine_1 => go_num
  case refine_2 => omega
  clear hsz
  have HZ : Hid (val ((List.replicate ((digs x).length + (digs y).length) 0).take (0 + (digs y).length)) = val ((digs x).take 0) * y) := by
    have : val ((List.replicate ((digs x).length + (digs y).length) 0).take (0 + (digs y).length)) = val ((digs x).take 0) * y := by rw [List.take_replicate, val_zeros]; simp [val]
    exact this
  go_loopw [19] (fun iv wr => ∃ (i : Nat) (out : List Nat), i ≤ (digs x).length ∧ iv = .int .i64 i ∧ Hid (out.length = (digs x).length + (digs y).length) ∧ Hid (Dg out) ∧ Hid (val (out.take (i + (digs y).length)) = val ((digs x).take i) * y) ∧ Own wr w.heap.size out ∧ Below w.heap.size w wr) (fun iv _ => (digs x).length - (intOf iv).toNat)
  case atStart => exact ⟨0, List.replicate ((digs x).length + (digs y).length) 0, by omega, rfl, by have := @List.length_replicate Nat ((digs x).length + (digs y).length) 0; exact this, Dg.zeros _, HZ, hO, hB⟩
  case round =>
    obtain ⟨i, out0, hi, rfl, HL, HDo, HV, hOk, hBk⟩ := hrel
    by_cases hlt : i < (digs x).length
    · obtain ⟨b, o, rfl, e0⟩ := sl_addr (s1.ext hBk) (wcs_get hlt)
      have hX := HX.out.get hlt
      have HV1 := Lib.hid (val_take_succ (digs x) i hlt)
      generalize (digs x)[i] = X at *
      rw [B_eq] at hX
      have HZ2 : Hid (val (out0.take (i + (digs y).length)) + B ^ i * B ^ 0 * 0 = val ((digs x).take i) * y + B ^ i * (X * val ((digs y).take 0))) := by
        have : val (out0.take (i + (digs y).length)) + B ^ i * B ^ 0 * 0 = val ((digs x).take i) * y + B ^ i * (X * val ((digs y).take 0)) := by rw [HV.out]; simp [val]
        exact this
      clear HV
      go_wp2
      go_loopw [8, 26] (fun cv kv wr => ∃ (k cr : Nat) (out : List Nat), k ≤ (digs y).length ∧ kv = .int .i64 k ∧ cv = .int .u64 cr ∧ cr < 4294967296 ∧ Hid (out.length = (digs x).length + (digs y).length) ∧ Hid (Dg out) ∧ Hid (val (out.take (i + (digs y).length)) + B ^ i * B ^ k * cr = val ((digs x).take i) * y + B ^ i * (X * val ((digs y).take k))) ∧ Own wr w.heap.size out ∧ Below w.heap.size w wr) (fun _ kv _ => (digs y).length - (intOf kv).toNat)
      case atStart => exact ⟨0, 0, out0, by omega, rfl, rfl, by omega, HL, HDo, HZ2, hOk, hBk⟩
      case round =>
        clear hOk hBk HL HDo HZ2 e0
        obtain ⟨k, cr, out, hk, rfl, rfl, hcr, HL, HDo, HV, hOk, hBk⟩ := hrel
        by_cases hlk : k < (digs y).length
        · obtain ⟨b', o', rfl, f0⟩ := sl_addr (s2.ext hBk) (wcs_get hlk)
          have hY := HY.out.get hlk
          have hko : i + k < out.length := by have := HL.out; omega
          have o0 := hOk.cell hko
          have o1 := hOk.frozen (i + k)
          have hOo := HDo.out.get hko
          have hV2 := val_take_succ (digs y) k hlk
          have hset := fun z => val_take_set_in out (i + k) z (i + (digs y).length) (by omega) (by have := HL.out; omega)
          generalize out[i + k] = O at *
          generalize (digs y)[k] = Y at *
          rw [B_eq] at hY hOo
          obtain ⟨hm1, hm2⟩ := mul_le hX hY
          have hm3 : ((X * Y : Nat) : Int) = (X : Int) * (Y : Int) := Int.natCast_mul _ _
          have HR : Hid (val ((out.set (i + k) ((cr + (X * Y + O)) % 4294967296)).take (i + (digs y).length)) + B ^ i * B ^ (k + 1) * ((cr + (X * Y + O)) / 4294967296) = val ((digs x).take i) * y + B ^ i * (X * val ((digs y).take (k + 1)))) := by
            have h1 := hset ((cr + (X * Y + O)) % 4294967296)
            rw [Nat.pow_add] at h1
            have h2 := mul_step (Y := Y) h1 HV.out (q := (cr + (X * Y + O)) / 4294967296) (by rw [B_eq]; exact Nat.mod_add_div _ _)
            rw [hV2, Nat.pow_succ]; exact h2
          have HM := Lib.hid hm3
          clear hset hV2 hm3
          go_wp2
          go_roundw
          case rel => exact ⟨k + 1, (cr + (X * Y + O)) / 4294967296, out.set (i + k) ((cr + (X * Y + O)) % 4294967296), by omega, by go_num, by rw [← HM.out]; go_num, by have := HM.out; omega, Hid.len_set HL _ _, Hid.dg_set HDo _ (Nat.mod_lt _ B_pos), HR, hOk.set' hko _ (by rw [← HM.out]; omega), hBk.setCell (Nat.le_refl _) _⟩
          case measure => simp [intOf]; omega
        · obtain rfl : k = (digs y).length := by omega
          have hko : i + (digs y).length < out.length := by have := HL.out; omega
          have o0 := hOk.cell hko
          have o1 := hOk.frozen (i + (digs y).length)
          have HR : Hid (val ((out.set (i + (digs y).length) cr).take (i + 1 + (digs y).length)) = val ((digs x).take (i + 1)) * y) := by
            have h1 := val_take_set out (i + (digs y).length) cr hko
            have h2 := HV.out
            rw [List.take_length, val_digs] at h2
            rw [Nat.add_right_comm, h1, Nat.pow_add, h2, HV1.out, Nat.add_mul, Nat.mul_assoc]; exact Lib.hid rfl
          go_wp2
          go_roundw
          case rel => exact ⟨i + 1, out.set (i + (digs y).length) cr, by omega, by go_num, Hid.len_set HL _ _, Hid.dg_set HDo _ (by rw [B_eq]; omega), HR, hOk.set' hko _ (by omega), hBk.setCell (Nat.le_refl _) _⟩
          case measure => simp [intOf]; omega
    · obtain rfl : i = (digs x).length := by omega
      have HF : Hid (val out0 = x * y) := by
        have h1 := HV.out
        rw [List.take_of_length_le (by rw [HL.out]; omega), List.take_length, val_digs] at h1
        exact h1
      clear HV
      go_wp2_with fail
      have hs := hOk.sl (c := (digs x).length + (digs y).length) (by rw [HL.out]; omega) (by unfold maxLen; omega)
      have hT := trim_at out0 HDo.out _ _ hs
      rw [HL.out, HF.out] at hT
      refine Calls.mono hT ?_
      rintro e w' ⟨v, rfl, hv, rfl⟩
      clear hT hs
      go_wp2
      go_ret
      exact ⟨_, rfl, hv, hBk⟩
end Nm
end Go.Proofs.YtiieckboccbhhaaGreatDoor
