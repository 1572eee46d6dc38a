/- slices.Clone at words, Less of package value. -/
import Derived.Test.YtkinapdfmgfdfaaBig2
namespace Go.Proofs.Ytkinapdfmgfdfaa
open Go.RowKit
namespace Nm
/-- a copy of the call's own -/
def ClonePost (w : World) (l : List Nat) (e : Ending) (w' : World) : Prop :=
  ∃ b c, e = .returned (.slice (some ⟨b, 0, none⟩) l.length c) ∧ w.heap.size ≤ b ∧ l.length ≤ c ∧ c ≤ maxLen ∧ Own w' b l ∧ Below w.heap.size w w'
set_option maxHeartbeats 2000000 in
theorem clone_at (l : List Nat) (a : Option Addr) (c : Nat) (w : World) (hs : Sl w (.slice a l.length c) l.length (wcs l)) (hl : 0 < l.length) (hb : l.length ≤ 1000000000) : Calls Try.prog 56 #[.slice a l.length c] w (ClonePost w l) := by
  obtain ⟨b, o, rfl, e0⟩ := sl_addr hs (wcs_get hl)
  have hnil := fun wx => Lib.run_eql_slice_nil (P := Try.prog) wx 51 97 (some ⟨b, o, none⟩) l.length c 0 0 Try.underlying51
  have HB := Lib.hid u32_info
  clear e0
  go_enter Try.func56, Try.ntmps56
  have hown0 : (w.alloc (Obj.cells #[] 97)).ownsRow w.heap.size 97 1 (.slice (some ⟨w.heap.size, 0, none⟩) 0 0) 0 [] := ⟨rfl, .inr ⟨w.heap.size, 0, #[], rfl, Nat.le_refl _, heap_alloc_new w _, Nat.le_refl _, Nat.zero_le _, rfl, rfl⟩⟩
  have hs2 := hs.ext (w' := w.alloc (Obj.cells #[] 97)) (by go_grown)
  go_wp2_with (at_builtin; refine wpList_append_sl rfl _ _ 51 rfl w.heap.size 97 Try.underlying51 HB.out rfl (by decide) rfl hown0 rfl hs2 ?c1 (wcs_one _) ?c2 ?c3 ?c4 ?_; rotate_left 4; intro v2 w2 hown2 hg2 hv2)
  case c1 => rw [wcs_length, Nat.mul_one]
  case c2 => unfold maxLen; omega
  case c3 => omega
  case c4 => simp
  have hb2 : Below w.heap.size w w2 := Below.grown (show Below w.heap.size w (w.alloc (Obj.cells #[] 97)) by go_grown) hg2 (by simp) (fun k e => by cases e; exact Nat.le_refl _)
  rw [List.nil_append, Nat.zero_add] at hown2
  obtain ⟨g, cap, rfl, h1, h2, h3, h4⟩ := Own.ofRow hown2 hl
  clear hown0 hs2 hown2 hg2 hv2
  go_wp2
  go_ret
  exact ⟨g, cap, rfl, h1, h2, h3, h4, hb2⟩
theorem clone_nil (w : World) : Calls Try.prog 56 #[.slice none 0 0] w fun e w' => e = .returned (.slice none 0 0) ∧ w = w' := by
  have hnil := fun wx => Lib.run_eql_slice_nil (P := Try.prog) wx 51 97 none 0 0 0 0 Try.underlying51
  go_enter Try.func56, Try.ntmps56
  go_wp2
  go_ret
  exact ⟨rfl, rfl⟩
/-- a step of the difference -/
theorem sub_step {P V A C br br' X Y z : Nat} (h : V + C = A + P * br) (hz : z + Y + br = X + B * br') : (V + P * z) + (C + P * Y) = (A + P * X) + P * B * br' := by
  have e : P * (z + Y + br) = P * (X + B * br') := by rw [hz]
  rw [Nat.mul_add, Nat.mul_add, Nat.mul_add, ← Nat.mul_assoc] at e
  omega
theorem less_end {V y x n br : Nat} (hV : V < n) (h : V + y = x + n * br) (hle : y ≤ x) (hb : br ≤ 1) : V = x - y := by
  obtain rfl | rfl : br = 0 ∨ br = 1 := by omega
  · omega
  · rw [Nat.mul_one] at h; omega
set_option maxHeartbeats 8000000 in
theorem less_at (x y : Nat) (v u : Value) (w : World) (hx : N w v x) (hy : N w u y) (hxl : wlen x ≤ 1000000000) (hle : y ≤ x) (h0 : 0 < x) : Calls Try.prog 47 #[v, u] w (NPost w (x - y)) := by
  have hl := wlen_mono hle
  have hpos : 0 < wlen x := by have := @wlen_eq_zero x; omega
  obtain ⟨a, c, rfl, s1⟩ := hx.open_
  obtain ⟨a', c', rfl, s2⟩ := hy.open_
  obtain ⟨p1, p2⟩ := sl_caps s1
  obtain ⟨q1, q2⟩ := sl_caps s2
  have HX := Lib.hid (digs_dg x)
  have HY := Lib.hid (digs_dg y)
  unfold wlen at hl hxl hpos
  clear hx hy
  go_enter Try.func47, Try.ntmps47
  go_wp2_with fail
  refine (clone_at (digs x) a c w s1 hpos hxl).mono ?_
  rintro e W ⟨b, cc, rfl, hbb, hc1, hc2, hO, hB⟩
  have hc3 := hc2
  unfold maxLen at hc3
  have HZ : Hid (val ((digs x).take 0) + val ((digs y).take 0) = val ((digs x).take 0) + B ^ 0 * 0) := by
    have : val ((digs x).take 0) + val ((digs y).take 0) = val ((digs x).take 0) + B ^ 0 * 0 := by simp [val]
    exact this
  go_wp2
  go_loopw [6, 14] (fun cv iv wr => ∃ (k br : Nat) (out : List Nat), k ≤ (digs x).length ∧ iv = .int .i64 k ∧ cv = .int .u64 br ∧ br ≤ 1 ∧ Hid (out.length = (digs x).length) ∧ Hid (Dg out) ∧ Hid (out.drop k = (digs x).drop k) ∧ Hid (val (out.take k) + val ((digs y).take k) = val ((digs x).take k) + B ^ k * br) ∧ Own wr b out ∧ Below w.heap.size w wr) (fun _ iv _ => (digs x).length - (intOf iv).toNat)
  case atStart => exact ⟨0, 0, digs x, by omega, rfl, rfl, by omega, Lib.hid rfl, HX, Lib.hid rfl, HZ, hO, hB⟩
  case round =>
    obtain ⟨k, br, out, hk, rfl, rfl, hbr, HL, HDo, HDR, HV, hOk, hBk⟩ := hrel
    by_cases hlt : k < (digs x).length
    · have hko : k < out.length := by have := HL.out; omega
      have o0 := hOk.cell hko
      have o1 := hOk.frozen k
      have hX := HX.out.get hlt
      have hV1 := val_take_succ (digs x) k hlt
      have hV2 := val_take_wd (digs y) k
      have hXe : out[k] = (digs x)[k] := by
        have := HDR.out
        rw [List.drop_eq_getElem_cons hko, List.drop_eq_getElem_cons hlt] at this
        exact (List.cons.inj this).1
      have HDR2 : ∀ z, Hid ((out.set k z).drop (k + 1) = (digs x).drop (k + 1)) := fun z => by
        have h1 := HDR.out
        rw [List.drop_eq_getElem_cons hko, List.drop_eq_getElem_cons hlt] at h1
        have : (out.set k z).drop (k + 1) = (digs x).drop (k + 1) := by rw [List.drop_set_of_lt (by omega)]; exact (List.cons.inj h1).2
        exact this
      have HST : ∀ z Y br', Hid (wd (digs y) k = Y → z + Y + br = (digs x)[k] + B * br' → val ((out.set k z).take (k + 1)) + val ((digs y).take (k + 1)) = val ((digs x).take (k + 1)) + B ^ (k + 1) * br') := fun z Y br' => by
        have : wd (digs y) k = Y → z + Y + br = (digs x)[k] + B * br' → val ((out.set k z).take (k + 1)) + val ((digs y).take (k + 1)) = val ((digs x).take (k + 1)) + B ^ (k + 1) * br' := fun hY hz => by
          rw [val_take_set out k _ hko, hV1, hV2, hY, Nat.pow_succ]
          exact sub_step HV.out hz
        exact this
      rw [hXe] at o0
      clear hV1 hV2 hXe
      have HST' := Lib.hid HST
      have HDR' := Lib.hid HDR2
      clear HST HDR2
      by_cases hly : k < (digs y).length
      · obtain ⟨b', o', rfl, f0⟩ := sl_addr (s2.ext hBk) (wcs_get hly)
        have hY := HY.out.get hly
        have HWD := Lib.hid (wd_get hly)
        generalize (digs x)[k] = X at *
        generalize (digs y)[k] = Y at *
        rw [B_eq] at hX hY
        by_cases hc : X < br + Y
        · have HR := Lib.hid ((HST'.out (X + 4294967296 - (br + Y)) Y 1).out HWD.out (by rw [B_eq]; omega))
          have HD3 := (HDR'.out (X + 4294967296 - (br + Y)))
          clear HST' HDR'
          go_wp2
          go_roundw
          case rel => exact ⟨k + 1, 1, out.set k (X + 4294967296 - (br + Y)), by omega, by go_num, rfl, by omega, Hid.len_set HL _ _, Hid.dg_set HDo _ (by rw [B_eq]; omega), HD3, HR, hOk.set' hko _ (by omega), hBk.setCell hbb _⟩
          case measure => simp [intOf]; omega
        · have HR := Lib.hid ((HST'.out (X - (br + Y)) Y 0).out HWD.out (by rw [B_eq]; omega))
          have HD3 := (HDR'.out (X - (br + Y)))
          clear HST' HDR'
          go_wp2
          go_roundw
          case rel => exact ⟨k + 1, 0, out.set k (X - (br + Y)), by omega, by go_num, rfl, by omega, Hid.len_set HL _ _, Hid.dg_set HDo _ (by rw [B_eq]; omega), HD3, HR, hOk.set' hko _ (by omega), hBk.setCell hbb _⟩
          case measure => simp [intOf]; omega
      · have HWD := Lib.hid (wd_past (l := digs y) (k := k) (by omega))
        generalize (digs x)[k] = X at *
        rw [B_eq] at hX
        by_cases hc : X < br
        · have HR := Lib.hid ((HST'.out (X + 4294967296 - br) 0 1).out HWD.out (by rw [B_eq]; omega))
          have HD3 := (HDR'.out (X + 4294967296 - br))
          clear HST' HDR'
          go_wp2
          go_roundw
          case rel => exact ⟨k + 1, 1, out.set k (X + 4294967296 - br), by omega, by go_num, rfl, by omega, Hid.len_set HL _ _, Hid.dg_set HDo _ (by rw [B_eq]; omega), HD3, HR, hOk.set' hko _ (by omega), hBk.setCell hbb _⟩
          case measure => simp [intOf]; omega
        · have HR := Lib.hid ((HST'.out (X - br) 0 0).out HWD.out (by rw [B_eq]; omega))
          have HD3 := (HDR'.out (X - br))
          clear HST' HDR'
          go_wp2
          go_roundw
          case rel => exact ⟨k + 1, 0, out.set k (X - br), by omega, by go_num, rfl, by omega, Hid.len_set HL _ _, Hid.dg_set HDo _ (by rw [B_eq]; omega), HD3, HR, hOk.set' hko _ (by omega), hBk.setCell hbb _⟩
          case measure => simp [intOf]; omega
    · obtain rfl : k = (digs x).length := by omega
      have HF : Hid (val out = x - y) := by
        have h1 := HV.out
        have h2 := val_lt HDo.out
        rw [HL.out] at h2
        rw [List.take_of_length_le (by rw [HL.out]; omega), List.take_length, List.take_of_length_le hl, val_digs, val_digs] at h1
        exact less_end h2 h1 hle hbr
      clear HDR HV
      go_wp2_with fail
      have hs := hOk.sl (c := cc) (by rw [HL.out]; omega) hc2
      have hT := trim_at out HDo.out _ _ hs
      rw [HL.out, HF.out] at hT
      refine Calls.mono hT ?_
      rintro e w' ⟨v, rfl, hv, rfl⟩
      clear hT hs
      go_wp2
      go_ret
      exact ⟨_, rfl, hv, hBk⟩
end Nm
end Go.Proofs.Ytkinapdfmgfdfaa
