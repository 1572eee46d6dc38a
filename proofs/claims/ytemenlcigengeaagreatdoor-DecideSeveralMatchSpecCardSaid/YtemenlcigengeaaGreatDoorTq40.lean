/- Words for slices that are read and small facts on worlds, for all walks of this seat: no program stands in it. Numbers as lists of words of 32 bits, the least one first: plain mathematics, no program stands in it. Add, Less of package value. slices.Clone at words, Less of package value. Exact numbers: plain mathematics over the core's Rat. -/
import Derived.Test.YtemenlcigengeaaGreatDoorTq00
import Derived.WalkKit
import Derived.WalkSpells
import Derived.WalkLawsBesides
import Derived.Handy
import Derived.Lib.Hide
import Derived.Lib.ConvBytes
import Derived.Deep.DeepAppendRoom
import Derived.Laws.AppendOwnNone
import Derived.Test.YtemenlcigengeaaGreatDoorTq03
import Derived.Test.YtemenlcigengeaaGreatDoorProg
import Derived.Test.YtemenlcigengeaaGreatDoorTq05
import Derived.Test.YtemenlcigengeaaGreatDoorTq16
import Derived.Test.YtemenlcigengeaaGreatDoorTq41
namespace Go.Proofs.YtemenlcigengeaaGreatDoor
open Go.RowKit

theorem bcells_one (l : List UInt8) : ∀ u ∈ bcells l, u.oneCell' = true := by
  intro u hu; simp only [bcells, List.mem_map] at hu; obtain ⟨c, _, rfl⟩ := hu; rfl

end Go.Proofs.YtemenlcigengeaaGreatDoor
namespace Go.Proofs.YtemenlcigengeaaGreatDoor
namespace Nm
theorem wlen_add (m n : Nat) : wlen (m + n) ≤ max (wlen m) (wlen n) + 1 := by
  apply wlen_le
  have h1 := lt_pow_wlen m
  have h2 := lt_pow_wlen n
  have h3 : B ^ wlen m ≤ B ^ max (wlen m) (wlen n) := Nat.pow_le_pow_right B_pos (Nat.le_max_left _ _)
  have h4 : B ^ wlen n ≤ B ^ max (wlen m) (wlen n) := Nat.pow_le_pow_right B_pos (Nat.le_max_right _ _)
  rw [Nat.pow_succ, B_eq] at *; omega
end Nm
end Go.Proofs.YtemenlcigengeaaGreatDoor
namespace Go.Proofs.YtemenlcigengeaaGreatDoor
open Go.RowKit
namespace Nm
set_option maxHeartbeats 4000000 in
theorem add_body (x y : Nat) (v u : Value) (w : World) (hx : N w v x) (hy : N w u y) (hxl : wlen x ≤ 1000000000) (hl : wlen y ≤ wlen x) : Calls Tryz.prog 75 #[v, u] w (NPost w (x + y)) := by
  obtain ⟨a, c, rfl, s1⟩ := hx.open_
  obtain ⟨a', c', rfl, s2⟩ := hy.open_
  obtain ⟨p1, p2⟩ := sl_caps s1
  obtain ⟨q1, q2⟩ := sl_caps s2
  have HX := Lib.hid (digs_dg x)
  have HY := Lib.hid (digs_dg y)
  unfold wlen at hl hxl
  clear hx hy
  go_enter Tryz.func75, Tryz.ntmps75
  go_wp2_with (refine wpList_make_words rfl _ _ rfl ((digs x).length + 1) rfl rfl ?_ ?_ ?_; rotate_left 2; intro W hO hB hsz)
  case refine_1 => go_num
  case refine_2 => omega
  clear hsz
  have HZ : Hid (val ((List.replicate ((digs x).length + 1) 0).take 0) + B ^ 0 * 0 = val ((digs x).take 0) + val ((digs y).take 0)) := by
    have : val ((List.replicate ((digs x).length + 1) 0).take 0) + B ^ 0 * 0 = val ((digs x).take 0) + val ((digs y).take 0) := by simp [val]
    exact this
  go_loopw [6, 22] (fun cv iv wr => ∃ (k cr : Nat) (out : List Nat), k ≤ (digs x).length ∧ iv = .int .i64 k ∧ cv = .int .u64 cr ∧ cr ≤ 1 ∧ Hid (out.length = (digs x).length + 1) ∧ Hid (Dg out) ∧ Hid (val (out.take k) + B ^ k * cr = val ((digs x).take k) + val ((digs y).take k)) ∧ Own wr w.heap.size out ∧ Below w.heap.size w wr) (fun _ iv _ => (digs x).length - (intOf iv).toNat)
  case atStart => exact ⟨0, 0, List.replicate ((digs x).length + 1) 0, by omega, rfl, rfl, by omega, by have := @List.length_replicate Nat ((digs x).length + 1) 0; exact this, Dg.zeros _, HZ, hO, hB⟩
  case round =>
    obtain ⟨k, cr, out, hk, rfl, rfl, hcr, HL, HDo, HV, hOk, hBk⟩ := hrel
    have hko : k < out.length := by have := HL.out; omega
    have o0 := hOk.cell hko
    have o1 := hOk.frozen k
    by_cases hlt : k < (digs x).length
    · obtain ⟨b, o, rfl, e0⟩ := sl_addr (s1.ext hBk) (wcs_get hlt)
      have hX := HX.out.get hlt
      have hV1 := val_take_succ (digs x) k hlt
      have hV2 := val_take_wd (digs y) k
      by_cases hly : k < (digs y).length
      · obtain ⟨b', o', rfl, f0⟩ := sl_addr (s2.ext hBk) (wcs_get hly)
        have hY := HY.out.get hly
        rw [wd_get hly] at hV2
        generalize (digs x)[k] = X at *
        generalize (digs y)[k] = Y at *
        rw [B_eq] at hX hY
        have HR : Hid (val ((out.set k ((cr + X + Y) % 4294967296)).take (k + 1)) + B ^ (k + 1) * ((cr + X + Y) / 4294967296) = val ((digs x).take (k + 1)) + val ((digs y).take (k + 1))) := by
          have := add_step (x := X) (y := Y) HV.out
          rw [← hV1, ← hV2, ← val_take_set out k _ hko, B_eq] at this
          exact this
        clear hV1 hV2
        go_wp2
        go_roundw
        case rel => exact ⟨k + 1, (cr + X + Y) / 4294967296, out.set k ((cr + X + Y) % 4294967296), by omega, by go_num, by go_num, by omega, Hid.len_set HL _ _, Hid.dg_set HDo _ (Nat.mod_lt _ B_pos), HR, hOk.set' hko _ (by omega), hBk.setCell (Nat.le_refl _) _⟩
        case measure => simp [intOf]; omega
      · rw [wd_past (by omega)] at hV2
        generalize (digs x)[k] = X at *
        rw [B_eq] at hX
        have HR : Hid (val ((out.set k ((cr + X) % 4294967296)).take (k + 1)) + B ^ (k + 1) * ((cr + X) / 4294967296) = val ((digs x).take (k + 1)) + val ((digs y).take (k + 1))) := by
          have := add_step (x := X) (y := 0) HV.out
          rw [← hV1, ← hV2, Nat.add_zero, ← val_take_set out k _ hko, B_eq] at this
          exact this
        clear hV1 hV2
        go_wp2
        go_roundw
        case rel => exact ⟨k + 1, (cr + X) / 4294967296, out.set k ((cr + X) % 4294967296), by omega, by go_num, by go_num, by omega, Hid.len_set HL _ _, Hid.dg_set HDo _ (Nat.mod_lt _ B_pos), HR, hOk.set' hko _ (by omega), hBk.setCell (Nat.le_refl _) _⟩
        case measure => simp [intOf]; omega
    · obtain rfl : k = (digs x).length := by omega
      have HF : Hid (val (out.set (digs x).length cr) = x + y) := by
        have h1 := val_take_set out (digs x).length cr hko
        rw [List.take_of_length_le (by rw [List.length_set, HL.out]; omega), HV.out, List.take_length, List.take_of_length_le hl, val_digs, val_digs] at h1
        exact h1
      have HL2 := Hid.len_set HL (digs x).length cr
      have HD2 := Hid.dg_set HDo (digs x).length (x := cr) (by rw [B_eq]; omega)
      have hO2 := hOk.set hko cr
      have hB2 := hBk.setCell (Nat.le_refl _) (p := ⟨w.heap.size, (digs x).length, none⟩) (.int .u32 (cr : Int))
      clear HL HDo HV hOk hBk
      go_wp2_with fail
      generalize out.set (digs x).length cr = fin at *
      have hs := hO2.sl (c := (digs x).length + 1) (by rw [HL2.out]; omega) (by unfold maxLen; omega)
      have hT := trim_at fin HD2.out _ _ hs
      rw [HL2.out, HF.out] at hT
      refine Calls.mono hT ?_
      rintro e w' ⟨v, rfl, hv, rfl⟩
      clear hT hs
      go_wp2
      go_ret
      exact ⟨_, rfl, hv, hB2⟩
set_option maxHeartbeats 4000000 in
theorem add_body2 (x y : Nat) (v u : Value) (w : World) (hx : N w v x) (hy : N w u y) (hxl : wlen x ≤ 1000000000) (hl : wlen y < wlen x) : Calls Tryz.prog 75 #[u, v] w (NPost w (x + y)) := by
  obtain ⟨a, c, rfl, s1⟩ := hx.open_
  obtain ⟨a', c', rfl, s2⟩ := hy.open_
  obtain ⟨p1, p2⟩ := sl_caps s1
  obtain ⟨q1, q2⟩ := sl_caps s2
  have HX := Lib.hid (digs_dg x)
  have HY := Lib.hid (digs_dg y)
  unfold wlen at hl hxl
  clear hx hy
  go_enter Tryz.func75, Tryz.ntmps75
  go_wp2_with (refine wpList_make_words rfl _ _ rfl ((digs x).length + 1) rfl rfl ?_ ?_ ?_; rotate_left 2; intro W hO hB hsz)
  case refine_1 => go_num
  case refine_2 => omega
  clear hsz
  have HZ : Hid (val ((List.replicate ((digs x).length + 1) 0).take 0) + B ^ 0 * 0 = val ((digs x).take 0) + val ((digs y).take 0)) := by
    have : val ((List.replicate ((digs x).length + 1) 0).take 0) + B ^ 0 * 0 = val ((digs x).take 0) + val ((digs y).take 0) := by simp [val]
    exact this
  go_loopw [6, 22] (fun cv iv wr => ∃ (k cr : Nat) (out : List Nat), k ≤ (digs x).length ∧ iv = .int .i64 k ∧ cv = .int .u64 cr ∧ cr ≤ 1 ∧ Hid (out.length = (digs x).length + 1) ∧ Hid (Dg out) ∧ Hid (val (out.take k) + B ^ k * cr = val ((digs x).take k) + val ((digs y).take k)) ∧ Own wr w.heap.size out ∧ Below w.heap.size w wr) (fun _ iv _ => (digs x).length - (intOf iv).toNat)
  case atStart => exact ⟨0, 0, List.replicate ((digs x).length + 1) 0, by omega, rfl, rfl, by omega, by have := @List.length_replicate Nat ((digs x).length + 1) 0; exact this, Dg.zeros _, HZ, hO, hB⟩
  case round =>
    obtain ⟨k, cr, out, hk, rfl, rfl, hcr, HL, HDo, HV, hOk, hBk⟩ := hrel
    have hko : k < out.length := by have := HL.out; omega
    have o0 := hOk.cell hko
    have o1 := hOk.frozen k
    by_cases hlt : k < (digs x).length
    · obtain ⟨b, o, rfl, e0⟩ := sl_addr (s1.ext hBk) (wcs_get hlt)
      have hX := HX.out.get hlt
      have hV1 := val_take_succ (digs x) k hlt
      have hV2 := val_take_wd (digs y) k
      by_cases hly : k < (digs y).length
      · obtain ⟨b', o', rfl, f0⟩ := sl_addr (s2.ext hBk) (wcs_get hly)
        have hY := HY.out.get hly
        rw [wd_get hly] at hV2
        generalize (digs x)[k] = X at *
        generalize (digs y)[k] = Y at *
        rw [B_eq] at hX hY
        have HR : Hid (val ((out.set k ((cr + X + Y) % 4294967296)).take (k + 1)) + B ^ (k + 1) * ((cr + X + Y) / 4294967296) = val ((digs x).take (k + 1)) + val ((digs y).take (k + 1))) := by
          have := add_step (x := X) (y := Y) HV.out
          rw [← hV1, ← hV2, ← val_take_set out k _ hko, B_eq] at this
          exact this
        clear hV1 hV2
        go_wp2
        go_roundw
        case rel => exact ⟨k + 1, (cr + X + Y) / 4294967296, out.set k ((cr + X + Y) % 4294967296), by omega, by go_num, by go_num, by omega, Hid.len_set HL _ _, Hid.dg_set HDo _ (Nat.mod_lt _ B_pos), HR, hOk.set' hko _ (by omega), hBk.setCell (Nat.le_refl _) _⟩
        case measure => simp [intOf]; omega
      · rw [wd_past (by omega)] at hV2
        generalize (digs x)[k] = X at *
        rw [B_eq] at hX
        have HR : Hid (val ((out.set k ((cr + X) % 4294967296)).take (k + 1)) + B ^ (k + 1) * ((cr + X) / 4294967296) = val ((digs x).take (k + 1)) + val ((digs y).take (k + 1))) := by
          have := add_step (x := X) (y := 0) HV.out
          rw [← hV1, ← hV2, Nat.add_zero, ← val_take_set out k _ hko, B_eq] at this
          exact this
        clear hV1 hV2
        go_wp2
        go_roundw
        case rel => exact ⟨k + 1, (cr + X) / 4294967296, out.set k ((cr + X) % 4294967296), by omega, by go_num, by go_num, by omega, Hid.len_set HL _ _, Hid.dg_set HDo _ (Nat.mod_lt _ B_pos), HR, hOk.set' hko _ (by omega), hBk.setCell (Nat.le_refl _) _⟩
        case measure => simp [intOf]; omega
    · obtain rfl : k = (digs x).length := by omega
      have HF : Hid (val (out.set (digs x).length cr) = x + y) := by
        have h1 := val_take_set out (digs x).length cr hko
        rw [List.take_of_length_le (by rw [List.length_set, HL.out]; omega), HV.out, List.take_length, List.take_of_length_le (Nat.le_of_lt hl), val_digs, val_digs] at h1
        exact h1
      have HL2 := Hid.len_set HL (digs x).length cr
      have HD2 := Hid.dg_set HDo (digs x).length (x := cr) (by rw [B_eq]; omega)
      have hO2 := hOk.set hko cr
      have hB2 := hBk.setCell (Nat.le_refl _) (p := ⟨w.heap.size, (digs x).length, none⟩) (.int .u32 (cr : Int))
      clear HL HDo HV hOk hBk
      go_wp2_with fail
      generalize out.set (digs x).length cr = fin at *
      have hs := hO2.sl (c := (digs x).length + 1) (by rw [HL2.out]; omega) (by unfold maxLen; omega)
      have hT := trim_at fin HD2.out _ _ hs
      rw [HL2.out, HF.out] at hT
      refine Calls.mono hT ?_
      rintro e w' ⟨v, rfl, hv, rfl⟩
      clear hT hs
      go_wp2
      go_ret
      exact ⟨_, rfl, hv, hB2⟩
theorem add_at (x y : Nat) (v u : Value) (w : World) (hx : N w v x) (hy : N w u y) (h1 : wlen x ≤ 1000000000) (h2 : wlen y ≤ 1000000000) : Calls Tryz.prog 75 #[v, u] w (NPost w (x + y)) := by
  by_cases h : wlen y ≤ wlen x
  · exact add_body x y v u w hx hy h1 h
  · rw [Nat.add_comm]; exact add_body2 y x u v w hy hx h2 (by omega)
end Nm
end Go.Proofs.YtemenlcigengeaaGreatDoor
namespace Go.Proofs.YtemenlcigengeaaGreatDoor
open Go.RowKit
namespace Nm
/-- a copy of the call's own -/
def ClonePost (w : World) (l : List Nat) (e : Ending) (w' : World) : Prop :=
  ∃ b c, e = .returned (.slice (some ⟨b, 0, none⟩) l.length c) ∧ w.heap.size ≤ b ∧ l.length ≤ c ∧ c ≤ maxLen ∧ Own w' b l ∧ Below w.heap.size w w'
set_option maxHeartbeats 2000000 in
theorem clone_at (l : List Nat) (a : Option Addr) (c : Nat) (w : World) (hs : Sl w (.slice a l.length c) l.length (wcs l)) (hl : 0 < l.length) (hb : l.length ≤ 1000000000) : Calls Tryz.prog 104 #[.slice a l.length c] w (ClonePost w l) := by
  obtain ⟨b, o, rfl, e0⟩ := sl_addr hs (wcs_get hl)
  have hnil := fun wx => Lib.run_eql_slice_nil (P := Tryz.prog) wx 65 129 (some ⟨b, o, none⟩) l.length c 0 0 Tryz.underlying65
  have HB := Lib.hid u32_info
  clear e0
  go_enter Tryz.func104, Tryz.ntmps104
  have hown0 : (w.alloc (Obj.cells #[] 129)).ownsRow w.heap.size 129 1 (.slice (some ⟨w.heap.size, 0, none⟩) 0 0) 0 [] := ⟨rfl, .inr ⟨w.heap.size, 0, #[], rfl, Nat.le_refl _, heap_alloc_new w _, Nat.le_refl _, Nat.zero_le _, rfl, rfl⟩⟩
  have hs2 := hs.ext (w' := w.alloc (Obj.cells #[] 129)) (by go_grown)
  go_wp2_with (at_builtin; refine wpList_append_sl rfl _ _ 65 rfl w.heap.size 129 Tryz.underlying65 HB.out rfl (by decide) rfl hown0 rfl hs2 ?c1 (wcs_one _) ?c2 ?c3 ?c4 ?_; rotate_left 4; intro v2 w2 hown2 hg2 hv2)
  case c1 => rw [wcs_length, Nat.mul_one]
  case c2 => unfold maxLen; omega
  case c3 => omega
  case c4 => simp
  have hb2 : Below w.heap.size w w2 := Below.grown (show Below w.heap.size w (w.alloc (Obj.cells #[] 129)) by go_grown) hg2 (by simp) (fun k e => by cases e; exact Nat.le_refl _)
  rw [List.nil_append, Nat.zero_add] at hown2
  obtain ⟨g, cap, rfl, h1, h2, h3, h4⟩ := Own.ofRow hown2 hl
  clear hown0 hs2 hown2 hg2 hv2
  go_wp2
  go_ret
  exact ⟨g, cap, rfl, h1, h2, h3, h4, hb2⟩
theorem less_end {V y x n br : Nat} (hV : V < n) (h : V + y = x + n * br) (hle : y ≤ x) (hb : br ≤ 1) : V = x - y := by
  obtain rfl | rfl : br = 0 ∨ br = 1 := by omega
  · omega
  · rw [Nat.mul_one] at h; omega
set_option maxHeartbeats 8000000 in
theorem less_at (x y : Nat) (v u : Value) (w : World) (hx : N w v x) (hy : N w u y) (hxl : wlen x ≤ 1000000000) (hle : y ≤ x) (h0 : 0 < x) : Calls Tryz.prog 77 #[v, u] w (NPost w (x - y)) := by
  have hl := wlen_mono hle
  have hpos : 0 < wlen x := by have := @wlen_eq_zero x; omega
  obtain ⟨a, c, rfl, s1⟩ := hx.open_
  obtain ⟨a', c', rfl, s2⟩ := hy.open_
  obtain ⟨p1, p2⟩ := sl_caps s1
  obtain ⟨q1, q2⟩ := sl_caps s2
  have HX := Lib.hid (digs_dg x)
  have HY := Lib.hid (digs_dg y)
  unfold wlen at hl hxl hpos
  clear hx hy
  go_enter Tryz.func77, Tryz.ntmps77
  go_wp2_with fail
  refine (clone_at (digs x) a c w s1 hpos hxl).mono ?_
  rintro e W ⟨b, cc, rfl, hbb, hc1, hc2, hO, hB⟩
  have hc3 := hc2
  unfold maxLen at hc3
  have HZ : Hid (val ((digs x).take 0) + val ((digs y).take 0) = val ((digs x).take 0) + B ^ 0 * 0) := by
    have : val ((digs x).take 0) + val ((digs y).take 0) = val ((digs x).take 0) + B ^ 0 * 0 := by simp [val]
    exact this
  go_wp2
  go_loopw [6, 14] (fun cv iv wr => ∃ (k br : Nat) (out : List Nat), k ≤ (digs x).length ∧ iv = .int .i64 k ∧ cv = .int .u64 br ∧ br ≤ 1 ∧ Hid (out.length = (digs x).length) ∧ Hid (Dg out) ∧ Hid (out.drop k = (digs x).drop k) ∧ Hid (val (out.take k) + val ((digs y).take k) = val ((digs x).take k) + B ^ k * br) ∧ Own wr b out ∧ Below w.heap.size w wr) (fun _ iv _ => (digs x).length - (intOf iv).toNat)
  case atStart => exact ⟨0, 0, digs x, by omega, rfl, rfl, by omega, Lib.hid rfl, HX, Lib.hid rfl, HZ, hO, hB⟩
  case round =>
    obtain ⟨k, br, out, hk, rfl, rfl, hbr, HL, HDo, HDR, HV, hOk, hBk⟩ := hrel
    by_cases hlt : k < (digs x).length
    · have hko : k < out.length := by have := HL.out; omega
      have o0 := hOk.cell hko
      have o1 := hOk.frozen k
      have hX := HX.out.get hlt
      have hV1 := val_take_succ (digs x) k hlt
      have hV2 := val_take_wd (digs y) k
      have hXe : out[k] = (digs x)[k] := by
        have := HDR.out
        rw [List.drop_eq_getElem_cons hko, List.drop_eq_getElem_cons hlt] at this
        exact (List.cons.inj this).1
      have HDR2 : ∀ z, Hid ((out.set k z).drop (k + 1) = (digs x).drop (k + 1)) := fun z => by
        have h1 := HDR.out
        rw [List.drop_eq_getElem_cons hko, List.drop_eq_getElem_cons hlt] at h1
        have : (out.set k z).drop (k + 1) = (digs x).drop (k + 1) := by rw [List.drop_set_of_lt (by omega)]; exact (List.cons.inj h1).2
        exact this
      have HST : ∀ z Y br', Hid (wd (digs y) k = Y → z + Y + br = (digs x)[k] + B * br' → val ((out.set k z).take (k + 1)) + val ((digs y).take (k + 1)) = val ((digs x).take (k + 1)) + B ^ (k + 1) * br') := fun z Y br' => by
        have : wd (digs y) k = Y → z + Y + br = (digs x)[k] + B * br' → val ((out.set k z).take (k + 1)) + val ((digs y).take (k + 1)) = val ((digs x).take (k + 1)) + B ^ (k + 1) * br' := fun hY hz => by
          rw [val_take_set out k _ hko, hV1, hV2, hY, Nat.pow_succ]
          exact sub_step HV.out hz
        exact this
      rw [hXe] at o0
      clear hV1 hV2 hXe
      have HST' := Lib.hid HST
      have HDR' := Lib.hid HDR2
      clear HST HDR2
      by_cases hly : k < (digs y).length
      · obtain ⟨b', o', rfl, f0⟩ := sl_addr (s2.ext hBk) (wcs_get hly)
        have hY := HY.out.get hly
        have HWD := Lib.hid (wd_get hly)
        generalize (digs x)[k] = X at *
        generalize (digs y)[k] = Y at *
        rw [B_eq] at hX hY
        by_cases hc : X < br + Y
        · have HR := Lib.hid ((HST'.out (X + 4294967296 - (br + Y)) Y 1).out HWD.out (by rw [B_eq]; omega))
          have HD3 := (HDR'.out (X + 4294967296 - (br + Y)))
          clear HST' HDR'
          go_wp2
          go_roundw
          case rel => exact ⟨k + 1, 1, out.set k (X + 4294967296 - (br + Y)), by omega, by go_num, rfl, by omega, Hid.len_set HL _ _, Hid.dg_set HDo _ (by rw [B_eq]; omega), HD3, HR, hOk.set' hko _ (by omega), hBk.setCell hbb _⟩
          case measure => simp [intOf]; omega
        · have HR := Lib.hid ((HST'.out (X - (br + Y)) Y 0).out HWD.out (by rw [B_eq]; omega))
          have HD3 := (HDR'.out (X - (br + Y)))
          clear HST' HDR'
          go_wp2
          go_roundw
          case rel => exact ⟨k + 1, 0, out.set k (X - (br + Y)), by omega, by go_num, rfl, by omega, Hid.len_set HL _ _, Hid.dg_set HDo _ (by rw [B_eq]; omega), HD3, HR, hOk.set' hko _ (by omega), hBk.setCell hbb _⟩
          case measure => simp [intOf]; omega
      · have HWD := Lib.hid (wd_past (l := digs y) (k := k) (by omega))
        generalize (digs x)[k] = X at *
        rw [B_eq] at hX
        by_cases hc : X < br
        · have HR := Lib.hid ((HST'.out (X + 4294967296 - br) 0 1).out HWD.out (by rw [B_eq]; omega))
          have HD3 := (HDR'.out (X + 4294967296 - br))
          clear HST' HDR'
          go_wp2
          go_roundw
          case rel => exact ⟨k + 1, 1, out.set k (X + 4294967296 - br), by omega, by go_num, rfl, by omega, Hid.len_set HL _ _, Hid.dg_set HDo _ (by rw [B_eq]; omega), HD3, HR, hOk.set' hko _ (by omega), hBk.setCell hbb _⟩
          case measure => simp [intOf]; omega
        · have HR := Lib.hid ((HST'.out (X - br) 0 0).out HWD.out (by rw [B_eq]; omega))
          have HD3 := (HDR'.out (X - br))
          clear HST' HDR'
          go_wp2
          go_roundw
          case rel => exact ⟨k + 1, 0, out.set k (X - br), by omega, by go_num, rfl, by omega, Hid.len_set HL _ _, Hid.dg_set HDo _ (by rw [B_eq]; omega), HD3, HR, hOk.set' hko _ (by omega), hBk.setCell hbb _⟩
          case measure => simp [intOf]; omega
    · obtain rfl : k = (digs x).length := by omega
      have HF : Hid (val out = x - y) := by
        have h1 := HV.out
        have h2 := val_lt HDo.out
        rw [HL.out] at h2
        rw [List.take_of_length_le (by rw [HL.out]; omega), List.take_length, List.take_of_length_le hl, val_digs, val_digs] at h1
        exact less_end h2 h1 hle hbr
      clear HDR HV
      go_wp2_with fail
      have hs := hOk.sl (c := cc) (by rw [HL.out]; omega) hc2
      have hT := trim_at out HDo.out _ _ hs
      rw [HL.out, HF.out] at hT
      refine Calls.mono hT ?_
      rintro e w' ⟨v, rfl, hv, rfl⟩
      clear hT hs
      go_wp2
      go_ret
      exact ⟨_, rfl, hv, hBk⟩
end Nm
end Go.Proofs.YtemenlcigengeaaGreatDoor
namespace Go.Proofs.YtemenlcigengeaaGreatDoor
namespace Nm
/-- the sum by signs -/
theorem add_same {x y : Rat} (h : decide (x.num < 0) = decide (y.num < 0)) : x.num * (y.den : Int) + y.num * (x.den : Int) = sgn (decide (x.num < 0)) (x.num.natAbs * y.den + y.num.natAbs * x.den) := by
  have hx := sgn_self x.num
  have hy := sgn_self y.num
  rw [← h] at hy
  generalize decide (x.num < 0) = b at *
  conv => lhs; rw [← hx, ← hy]
  generalize x.num.natAbs = m
  generalize y.num.natAbs = n
  cases b
  · simp [sgn]
  · simp [sgn, Int.neg_mul]; omega
theorem add_less {x y : Rat} (h : decide (x.num < 0) ≠ decide (y.num < 0)) (hl : x.num.natAbs * y.den < y.num.natAbs * x.den) : x.num * (y.den : Int) + y.num * (x.den : Int) = sgn (decide (y.num < 0)) (y.num.natAbs * x.den - x.num.natAbs * y.den) := by
  have hx := sgn_self x.num
  have hy := sgn_self y.num
  have hn : decide (x.num < 0) = !decide (y.num < 0) := by revert h; cases decide (x.num < 0) <;> cases decide (y.num < 0) <;> simp
  rw [hn] at hx
  generalize decide (y.num < 0) = b at *
  conv => lhs; rw [← hx, ← hy]
  generalize x.num.natAbs = m at *
  generalize y.num.natAbs = n at *
  have hc : ((n * x.den - m * y.den : Nat) : Int) = (n : Int) * (x.den : Int) - (m : Int) * (y.den : Int) := by rw [Int.ofNat_sub (Nat.le_of_lt hl), Int.natCast_mul, Int.natCast_mul]
  cases b
  · simp only [sgn, Bool.not_false, if_true]; simp [hc, Int.neg_mul]; omega
  · simp only [sgn, Bool.not_true, if_true]; simp [hc, Int.neg_mul]; omega
theorem add_more {x y : Rat} (h : decide (x.num < 0) ≠ decide (y.num < 0)) (hl : y.num.natAbs * x.den ≤ x.num.natAbs * y.den) : x.num * (y.den : Int) + y.num * (x.den : Int) = sgn (decide (x.num < 0)) (x.num.natAbs * y.den - y.num.natAbs * x.den) := by
  have hx := sgn_self x.num
  have hy := sgn_self y.num
  have hn : decide (y.num < 0) = !decide (x.num < 0) := by revert h; cases decide (x.num < 0) <;> cases decide (y.num < 0) <;> simp
  rw [hn] at hy
  generalize decide (x.num < 0) = b at *
  conv => lhs; rw [← hx, ← hy]
  generalize x.num.natAbs = m at *
  generalize y.num.natAbs = n at *
  have hc : ((m * y.den - n * x.den : Nat) : Int) = (m : Int) * (y.den : Int) - (n : Int) * (x.den : Int) := by rw [Int.ofNat_sub hl, Int.natCast_mul, Int.natCast_mul]
  cases b
  · simp only [sgn, Bool.not_false, if_true]; simp [hc, Int.neg_mul]; omega
  · simp only [sgn, Bool.not_true, if_true]; simp [hc, Int.neg_mul]; omega
theorem more_pos {x y : Rat} (h : decide (x.num < 0) ≠ decide (y.num < 0)) (hl : y.num.natAbs * x.den ≤ x.num.natAbs * y.den) : 0 < x.num.natAbs * y.den := by
  rcases Nat.eq_zero_or_pos (x.num.natAbs * y.den) with h0 | h0
  · exfalso
    have h1 : y.num.natAbs * x.den = 0 := by omega
    have hx : x.num.natAbs = 0 := by rcases Nat.mul_eq_zero.1 h0 with h | h; exact h; exact absurd h y.den_nz
    have hy : y.num.natAbs = 0 := by rcases Nat.mul_eq_zero.1 h1 with h | h; exact h; exact absurd h x.den_nz
    apply h
    have e1 : x.num = 0 := by omega
    have e2 : y.num = 0 := by omega
    rw [e1, e2]
  · exact h0
end Nm
end Go.Proofs.YtemenlcigengeaaGreatDoor
