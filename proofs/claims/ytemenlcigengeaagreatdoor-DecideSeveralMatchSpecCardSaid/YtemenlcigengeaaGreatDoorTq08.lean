/- Over of package value: division. -/
import Derived.Test.YtemenlcigengeaaGreatDoorTq06
import Derived.Test.YtemenlcigengeaaGreatDoorTq07
import Derived.Deep.Cut
namespace Go.Proofs.YtemenlcigengeaaGreatDoor
open Go.RowKit
namespace Nm
theorem elem_words : Tryz.prog.elem 65 = 129 := by kernel_rfl
theorem slice_part (bu n j m : Nat) (hj : j + m ≤ n) (w : World) : (Instr.slice 65 (.slice (some ⟨bu, 0, none⟩) (n + 1) (n + 1)) (some (.int .i64 (j : Int))) (some (.int .i64 ((j : Int) + (m : Int) + 1))) none).run Tryz.prog w = .ok (.slice (some ⟨bu, j, none⟩) (m + 1) (n + 1 - j)) w := by
  have hsz : ∀ w, (sizeOf 129).run Tryz.prog w = .ok 1 w := fun _ => by kernel_rfl
  rw [run_slice_lh w 65 (some ⟨bu, 0, none⟩) (n + 1) (n + 1) (by rw [elem_words]; exact Tryz.underlying65) .i64 .i64 (j : Int) ((j : Int) + (m : Int) + 1) (by omega) (by omega) (by omega), elem_words, hsz]
  have e1 : ((j : Int) + (m : Int) + 1).toNat = j + m + 1 := by omega
  have e2 : j + m + 1 - j = m + 1 := by omega
  have e3 := add_spot bu 0 j
  rw [Nat.zero_add] at e3
  simp only [Result.andThen_ok, sliced, e1, Int.toNat_natCast, if_neg (show ¬ (n + 1 = j) by omega), Nat.mul_one, Option.map_some, e2, e3]
def OverPost (w : World) (x y : Nat) (e : Ending) (w' : World) : Prop := ∃ v1 v2, e = .returned (.tuple #[v1, v2]) ∧ N w' v1 (x / y) ∧ N w' v2 (x % y) ∧ Below w.heap.size w w'
theorem N.zero (w : World) : N w (.slice none 0 0) 0 := by unfold N; rw [wlen_zero, digs_zero]; exact Sl.nil w
theorem below_drewN {B : Nat} {a w : World} (h : Below B a w) (n : Nat) : Below B a (w.drewN n) := ⟨h.os, h.tape, h.output, h.size, h.block⟩
theorem below_undrewN {B k : Nat} {a w : World} (h : Below B (a.drewN k) w) : Below B a w := ⟨h.os, h.tape, h.output, h.size, h.block⟩
set_option maxRecDepth 100000 in
set_option maxHeartbeats 4000000 in
theorem over_less (x y : Nat) (v u : Value) (w : World) (hx : N w v x) (hy : N w u y) (h : x < y) : Calls Tryz.prog 103 #[v, u] w (OverPost w x y) := by
  have HX := Lib.hid hx
  have HY := Lib.hid hy
  clear hx hy
  have hcmp : cmpN x y = -1 := cmpN_lt h
  go_enter Tryz.func103, Tryz.ntmps103
  go_wp2_with fail
  refine (cmp_at x y v u w HX.out HY.out).mono ?_
  rw [hcmp]
  rintro e w' ⟨rfl, k, rfl⟩
  clear hcmp
  go_wp2
  go_ret2
  exact ⟨_, _, rfl, by rw [Nat.div_eq_of_lt h]; exact N.zero _, by rw [Nat.mod_eq_of_lt h]; exact HX.out, below_drewN (Below.refl _ _) _⟩
set_option maxRecDepth 100000 in
set_option maxHeartbeats 4000000 in
theorem over_one (x y : Nat) (v u : Value) (w : World) (hx : N w v x) (hy : N w u y) (hxl : wlen x ≤ 1000000000) (h : y ≤ x) (hy1 : wlen y = 1) : Calls Tryz.prog 103 #[v, u] w (OverPost w x y) := by
  have HX := Lib.hid hx
  have HY := Lib.hid hy
  have hc : 0 ≤ cmpN x y := by have := @cmpN_neg x y; omega
  obtain ⟨a', c', rfl, s2⟩ := hy.open_
  have hyl : (digs y).length = 1 := hy1
  have hy0 : (digs y)[0] = y := by
    have e := val_take_succ (digs y) 0 (by omega)
    rw [List.take_of_length_le (by omega), val_digs] at e
    simpa [val] using e.symm
  have hyd := (digs_dg y).get (k := 0) (by omega)
  obtain ⟨b, o, rfl, e0⟩ := sl_addr s2 (wcs_get (k := 0) (by omega))
  rw [hy0, Nat.add_zero] at e0
  rw [hy0, B_eq] at hyd
  have hypos : 0 < y := by have := @wlen_eq_zero y; omega
  rw [hyl] at s2 HY ⊢
  clear hx hy hyl hy0 hy1
  generalize hcm : cmpN x y = cm at hc
  have HCM := Lib.hid hcm
  clear hcm
  go_enter Tryz.func103, Tryz.ntmps103
  go_wp2_with fail
  refine (cmp_at x y v _ w HX.out HY.out).mono ?_
  rw [HCM.out]
  rintro e w1 ⟨rfl, k, rfl⟩
  go_wp2_with fail
  refine (small_at x y v _ (show N (w.drewN k) v x from HX.out) hxl hypos hyd).mono ?_
  rintro e w2 ⟨v2, rfl, hq, hb2⟩
  have hr := Nat.mod_lt x hypos
  go_wp2_with fail
  refine (xnatOf_at (x % y) (by omega) w2).mono ?_
  rintro e w3 ⟨v3, rfl, hr3, hb3⟩
  go_wp2
  go_ret2
  exact ⟨_, _, rfl, hq.ext hb3, hr3, ext_trans (below_undrewN hb2) hb3⟩
set_option maxRecDepth 100000 in
set_option maxHeartbeats 40000000 in
theorem over_many (x y : Nat) (v u : Value) (w : World) (hx : N w v x) (hy : N w u y) (hxl : wlen x ≤ 1000000000) (h : y ≤ x) (hy2 : 2 ≤ wlen y) : Calls Tryz.prog 103 #[v, u] w (OverPost w x y) := by
  have HX := Lib.hid hx
  have HY := Lib.hid hy
  have hc : 0 ≤ cmpN x y := by have := @cmpN_neg x y; omega
  have hxy := wlen_mono h
  obtain ⟨m, hm⟩ : ∃ m, wlen y = m := ⟨_, rfl⟩
  obtain ⟨n, hn⟩ : ∃ n, wlen x = n := ⟨_, rfl⟩
  obtain ⟨a', c', rfl, s2⟩ := hy.open_
  obtain ⟨q1, q2⟩ := sl_caps s2
  have hyl : (digs y).length = m := hm
  have hyd := (digs_dg y).get (k := m - 1) (by omega)
  have hwd := wd_get (l := digs y) (k := m - 1) (by omega)
  obtain ⟨b, o, rfl, e0⟩ := sl_addr s2 (wcs_get (k := m - 1) (by omega))
  have ht0 : 0 < (digs y)[m - 1] := by
    have := digs_can y (by intro h; rw [h] at hyl; simp at hyl; omega)
    rw [List.getLast_eq_getElem] at this
    simp only [hyl] at this
    omega
  generalize (digs y)[m - 1] = t0 at *
  rw [B_eq] at hyd
  rw [hyl] at s2 HY q1 ⊢
  rw [hm] at hy2 hxy
  rw [hn] at hxl hxy
  have HM := Lib.hid hm
  have HN := Lib.hid hn
  have HWD := Lib.hid hwd
  clear hx hy hyl hm hn hwd
  generalize hcm : cmpN x y = cm at hc
  have HCM := Lib.hid hcm
  clear hcm
  have hb1 : ((m : Int) == 1) = false := by simp; omega
  have hm1 : ((m - 1 : Nat) : Int) = (m : Int) - 1 := by omega
  go_enter Tryz.func103, Tryz.ntmps103
  go_wp2_with fail
  refine (cmp_at x y v _ w HX.out HY.out).mono ?_
  rw [HCM.out]
  rintro e w1 ⟨rfl, k, rfl⟩
  have hN0 : N (w.drewN k) v x := HX.out
  have hY0 : N (w.drewN k) (.slice (some ⟨b, o, none⟩) m c') y := HY.out
  have hB0 : Below w.heap.size w (w.drewN k) := below_drewN (Below.refl _ _) _
  have e1 : (w.drewN k).cell? ⟨b, o + (m - 1), none⟩ = some (.int .u32 (t0 : Int)) := e0
  clear e0 HX HY s2
  generalize w.drewN k = W0 at *
  go_wp2_with fail
  refine (zeros32_at t0 hyd ht0 _).mono ?_
  rintro e w2 ⟨⟨s, rfl, hs, hs1, hs2⟩, rfl⟩
  have HTOP := Lib.hid (norm_top HM.out (by omega) hs HWD.out hs1 hs2)
  clear hs1 hs2 e1 HWD
  go_wp2_with fail
  have hsh := shifted_at x s v W0 hN0 (by rw [HN.out]; exact hxl) hs
  rw [HN.out] at hsh
  refine hsh.mono ?_
  clear hsh
  rintro e w3 ⟨bu, u0, rfl, hbu, hul, hud, huv, hOu, hB3⟩
  have HUl := Lib.hid hul
  have HUd := Lib.hid hud
  have HUv := Lib.hid huv
  clear hul hud huv
  go_wp2_with fail
  have hsh := shifted_at y s _ w3 (hY0.ext hB3) (by rw [HM.out]; omega) hs
  rw [HM.out] at hsh
  refine hsh.mono ?_
  clear hsh
  rintro e w4 ⟨bv, v0, rfl, hbv, hvl, hvd, hvv, hOv, hB4⟩
  have HVl := Lib.hid hvl
  have HVd := Lib.hid hvd
  have HVv := Lib.hid hvv
  clear hvl hvd hvv
  go_wp2_with fail
  have hsh := trim_keep v0 HVd.out (some ⟨bv, 0, none⟩) (m + 1) w4 (hOv.sl (by rw [HVl.out]; omega) (by unfold maxLen; omega))
  rw [HVl.out, HVv.out] at hsh
  have HNV : Hid (N w4 (.slice (some ⟨bv, 0, none⟩) m (m + 1)) (y * 2 ^ s) → True) := fun _ => trivial
  obtain ⟨V, hV⟩ : ∃ V, y * 2 ^ s = V := ⟨_, rfl⟩
  have HVE := Lib.hid hV
  rw [hV] at hsh
  have HT2 : Hid (wlen V = m ∧ 2147483648 ≤ wd (digs V) (m - 1) ∧ B ^ (m - 1) * 2 ^ s ≤ V ∧ V < B ^ m) := by
    have := HTOP.out
    rw [hV] at this
    exact this
  clear HTOP HNV hV
  unfold TrimKeep at hsh
  rw [HT2.out.1] at hsh
  refine hsh.mono ?_
  clear hsh
  rintro e w5 ⟨rfl, hNV, rfl⟩
  have hbuv : bu ≠ bv := by have := hOu.lt; omega
  have hne := hbuv.symm
  have hB04 := ext_trans (ext_trans hB0 hB3) hB4
  have hOu4 := hOu.ext hB4
  have hbu' : w.heap.size ≤ bu := Nat.le_trans hB0.size hbu
  have hbvlt := hOv.lt
  clear hOv hN0 hY0 hB0 hB3 hOu HVl HVd HVv
  go_wp2_with (refine wpList_make_words rfl _ _ rfl (n + 1 - m) rfl rfl ?_ ?_ ?_; rotate_left 2; intro W1 hOq hB5 hsz5)
  case refine_1 => go_num
  case refine_2 => omega
  have hB1 := ext_trans hB04 hB5
  have hOu1 := hOu4.ext hB5
  have hNV1 := hNV.ext hB5
  have hbq1 := hOu4.lt
  have hbq3 := hB04.size
  clear hB04 hB5 hOu4 hNV hsz5 hB4
  generalize w4.heap.size = bq at *
  obtain ⟨vt1, vt2, hvt⟩ := val_top (l := digs V) hy2 HT2.out.1
  have f1 := sl_addr (w := W1) (a := some ⟨bv, 0, none⟩) (c := m + 1) (by have := hNV1; unfold N at this; rw [HT2.out.1] at this; exact this) (wcs_get vt1)
  have f2 := sl_addr (w := W1) (a := some ⟨bv, 0, none⟩) (c := m + 1) (by have := hNV1; unfold N at this; rw [HT2.out.1] at this; exact this) (wcs_get vt2)
  obtain ⟨_, _, hq, f1⟩ := f1
  cases hq
  obtain ⟨_, _, hq, f2⟩ := f2
  cases hq
  rw [Nat.zero_add] at f1 f2
  have htop : 2147483648 ≤ (digs V)[m - 1] := by have := HT2.out.2.1; rw [wd_get vt1] at this; exact this
  have htop2 := (digs_dg V).get vt1
  have hnext := (digs_dg V).get vt2
  have HVL : Hid (val ((digs V).take (m - 2)) < B ^ (m - 2)) := by
    have := val_lt ((digs_dg V).take (m - 2))
    rw [List.length_take, Nat.min_eq_left (by omega)] at this
    exact this
  rw [val_digs] at hvt
  generalize (digs V)[m - 1] = top at *
  generalize (digs V)[m - 2] = next at *
  generalize val ((digs V).take (m - 2)) = vl at *
  have HVT := Lib.hid hvt
  rw [B_eq] at htop2 hnext
  clear hvt vt1 vt2
  have a1 : IntKind.i64.wrap ((m : Int) - 1) = (m : Int) - 1 := IntWalk.i64_in _ (by omega)
  have a2 : IntKind.i64.wrap ((m : Int) - 2) = (m : Int) - 2 := IntWalk.i64_in _ (by omega)
  have a3 : ((m : Int) - 1).toNat = m - 1 := by omega
  have a4 : ((m : Int) - 2).toNat = m - 2 := by omega
  have a5 : 0 ≤ (m : Int) - 1 := by omega
  have a6 : 0 ≤ (m : Int) - 2 := by omega
  go_quiet (fail)
  have hOu2 : Own (W1.drewN nq) bu u0 := hOu1
  have hOq2 : Own (W1.drewN nq) bq (List.replicate (n + 1 - m) 0) := hOq
  have hNV2 : N (W1.drewN nq) (.slice (some ⟨bv, 0, none⟩) m (m + 1)) V := hNV1
  have hB2 : Below w.heap.size w (W1.drewN nq) := below_drewN hB1 _
  clear hOu1 hOq hNV1 hB1 f1 f2 a1 a2 a3 a4 a5 a6
  generalize W1.drewN nq = W2 at *
  have HS0 := Lib.hid (start_lt (m := m) HUl.out HUv.out (by have := lt_pow_wlen x; rw [HN.out] at this; exact this) HT2.out.2.2.1 (by omega) hxy)
  have HS1 : Hid (val (u0.drop (n + 1 - m)) = val ((List.replicate (n + 1 - m) 0).drop (n + 1 - m)) * V + val (u0.drop (n + 1 - m))) := by
    have : val (u0.drop (n + 1 - m)) = val ((List.replicate (n + 1 - m) 0).drop (n + 1 - m)) * V + val (u0.drop (n + 1 - m)) := by rw [List.drop_of_length_le (l := List.replicate (n + 1 - m) 0) (by simp)]; simp [val]
    exact this
  have HRL : Hid ((List.replicate (n + 1 - m) 0).length = n + 1 - m) := List.length_replicate
  go_wp2
  go_loopw [14] (fun iv wr => ∃ (k : Nat) (S Q : List Nat), k ≤ n + 1 - m ∧ iv = .int .i64 ((k : Int) - 1) ∧ Hid (S.length = n + 1) ∧ Hid (Dg S) ∧ Hid (Q.length = n + 1 - m) ∧ Hid (Dg Q) ∧ Hid (S.take k = u0.take k) ∧ Hid (val (u0.drop k) = val (Q.drop k) * V + val (S.drop k)) ∧ Hid (val (S.drop k) < V) ∧ Own wr bu S ∧ Own wr bq Q ∧ N wr (.slice (some ⟨bv, 0, none⟩) m (m + 1)) V ∧ Below w.heap.size w wr) (fun iv _ => (intOf iv + 1).toNat)
  case atStart => exact ⟨n + 1 - m, u0, List.replicate (n + 1 - m) 0, Nat.le_refl _, rfl, HUl, HUd, HRL, Dg.zeros _, Lib.hid rfl, HS1, HS0, hOu2, hOq2, hNV2, hB2⟩
  case round =>
    clear hOu2 hOq2 hNV2 hB2 HS0 HS1 HRL
    obtain ⟨k, S, Q, hk, rfl, HSl, HSd, HQl, HQd, HSt, HI, HRV, hOS, hOQ, hNVr, hBr⟩ := hrel
    cases k with
    | zero =>
      have HF : Hid (val Q = x / y ∧ val S / 2 ^ s = x % y ∧ wlen (val S) ≤ m) := by
        have h1 := HI.out
        have h2 := HRV.out
        rw [List.drop_zero, List.drop_zero, List.drop_zero, HUv.out, ← HVE.out] at h1
        rw [List.drop_zero] at h2
        have h3 := shift_div (Nat.two_pow_pos s) (show 0 < y by have := @wlen_eq_zero y; have := HM.out; omega) h1 (by rw [HVE.out]; exact h2)
        have h4 : wlen (val S) ≤ wlen V := wlen_mono (Nat.le_of_lt h2)
        rw [HT2.out.1] at h4
        have : val Q = x / y ∧ val S / 2 ^ s = x % y ∧ wlen (val S) ≤ m := ⟨h3.1, h3.2, h4⟩
        exact this
      clear HI HRV
      go_wp2_with fail
      have hT := trim_at Q HQd.out _ _ (hOQ.sl (c := n + 1 - m) (by rw [HQl.out]; omega) (by unfold maxLen; omega))
      rw [HQl.out, HF.out.1] at hT
      refine Calls.mono hT ?_
      rintro e w6 ⟨v6, rfl, hv6, rfl⟩
      clear hT
      go_wp2_with fail
      have hT := trim_at S HSd.out _ _ (hOS.sl (c := n + 1) (by rw [HSl.out]; omega) (by unfold maxLen; omega))
      rw [HSl.out] at hT
      refine Calls.mono hT ?_
      rintro e w7 ⟨v7, rfl, hv7, rfl⟩
      clear hT
      go_wp2_with fail
      refine Calls.mono (lowered_at (val S) s v7 _ hv7 (by have := HF.out.2.2; omega) hs) ?_
      rw [HF.out.2.1]
      rintro e w8 ⟨v8, rfl, hv8, hb8⟩
      go_wp2
      go_ret2
      exact ⟨_, _, rfl, hv6.ext hb8, hv8, ext_trans hBr hb8⟩
    | succ j =>
      have hjn : j + m ≤ n := by omega
      have g1 : j + m < S.length := by have := HSl.out; omega
      have g2 : j + m - 1 < S.length := by omega
      have g3 : j + m - 2 < S.length := by omega
      have g4 : j < S.length := by omega
      have HSEG := Lib.hid (seg_all (l := S) (j := j) (m := m) (V := V) (by omega) HRV.out (HSd.out.get g4) HT2.out.2.2.2)
      have HTP := Lib.hid (seg_top (l := S) (j := j) hy2 (by omega))
      have HUL := Lib.hid (seg_lt HSd.out j (m - 2))
      have c1 := hOS.cell g1
      have c2 := hOS.cell g2
      have c3 := hOS.cell g3
      have b1 := HSd.out.get g1
      have b2 := HSd.out.get g2
      have b3 := HSd.out.get g3
      rw [show (((j + 1 : Nat) : Int) - 1) = (j : Int) by omega]
      generalize S[j + m] = x2 at *
      generalize S[j + m - 1] = x1 at *
      generalize hx0 : S[j + m - 2] = x0 at *
      have HX0 := Lib.hid hx0
      clear hx0
      rw [B_eq] at b1 b2 b3
      have a1 : IntKind.i64.wrap ((j : Int) + (m : Int) - 1) = (j : Int) + (m : Int) - 1 := IntWalk.i64_in _ (by omega)
      have a2 : ((j : Int) + (m : Int) - 1).toNat = j + m - 1 := by omega
      have a3 : ((j : Int) + (m : Int)).toNat = j + m := by omega
      have a4 : 0 ≤ (j : Int) + (m : Int) - 1 := by omega
      have a5 : (j : Int) + (m : Int) - 1 < (n : Int) + 1 := by omega
      have a6 := or64 b1 b2
      go_wp2
      go_quiet (fail)
      have hOS1 : Own (wr.drewN nq) bu S := hOS
      have hOQ1 : Own (wr.drewN nq) bq Q := hOQ
      have hNV1 : N (wr.drewN nq) (.slice (some ⟨bv, 0, none⟩) m (m + 1)) V := hNVr
      have hB1 : Below w.heap.size w (wr.drewN nq) := below_drewN hBr _
      clear hOS hOQ hNVr hBr c1 c2 c3 a1 a2 a3 a4 a5 a6
      generalize wr.drewN nq = W3 at *
      obtain ⟨g0, r0, hg0, hgr0, hr0, t1, t2, t3, t4⟩ := two_div b1 b2 htop
      have HGS : Hid (g0 ≤ B + 1 ∧ val (seg S j (m + 1)) < (g0 + 1) * V) := by
        have := guess_start (two := x2 * 4294967296 + x1) HVT.out HTP.out HVL.out HUL.out b3 hnext htop (by have := HSEG.out; omega)
        rw [← hg0] at this
        exact this
      have HGR := Lib.hid hgr0
      have hg0b : g0 ≤ 4294967297 := HGS.out.1
      clear hg0 hgr0
      have t5 : IntKind.u64.wrap (g0 : Int) = (g0 : Int) := IntWalk.u64_in _ (by omega)
      have t6 : ((top : Int) == 0) = false := by simp; omega
      go_wp2
      go_quiet (fail)
      have hOS2 : Own (W3.drewN nq) bu S := hOS1
      have hOQ2 : Own (W3.drewN nq) bq Q := hOQ1
      have hNV2 : N (W3.drewN nq) (.slice (some ⟨bv, 0, none⟩) m (m + 1)) V := hNV1
      have hB2 : Below w.heap.size w (W3.drewN nq) := below_drewN hB1 _
      clear hOS1 hOQ1 hNV1 hB1 t1 t2 t3 t4 t5 t6
      generalize W3.drewN nq = W4 at *
      have c3 := hOS2.cell g3
      rw [HX0.out] at c3
      have hU0 := HGS.out.2
      have HU0 := Lib.hid hU0
      clear hU0
      go_wp2
      go_loop [17, 18] (fun gv rv => ∃ g r : Nat, gv = .int .u64 g ∧ rv = .int .u64 r ∧ g ≤ 4294967297 ∧ r < 4294967296 ∧ Hid (g * top + r = x2 * 4294967296 + x1) ∧ Hid (val (seg S j (m + 1)) < (g + 1) * V)) (fun gv _ => (intOf gv).toNat)
      case atStart => exact ⟨g0, r0, rfl, rfl, hg0b, by omega, HGR, HU0⟩
      case round =>
        clear HU0 HGR hg0b
        obtain ⟨g, r, rfl, rfl, hg, hr, HGr, HU⟩ := hrel
        have hcapj : ¬ (n + 1 = j) := by omega
        have hslp := fun wx => slice_part bu n j m hjn wx
        have hbqv : bv < bq := hbvlt
        by_cases hC : g < 4294967296 ∧ g * next ≤ r * 4294967296 + x0
        · obtain ⟨hgB, hC2⟩ := hC
          have HE2 := Lib.hid (guess_end (two := x2 * 4294967296 + x1) (r := r) HVT.out HTP.out HVL.out (by omega) (show g ≤ B by rw [B_eq]; omega) HGr.out hC2)
          have HE1 := HU
          have hgg : g ≤ 4294967296 := by omega
          have hml := mul_le hgB hnext
          obtain ⟨hm5, hm6⟩ := hml
          have hm7 : ((g * next : Nat) : Int) = (g : Int) * (next : Int) := Int.natCast_mul _ _
          have hm8 : (g : Int) * (next : Int) ≤ (r : Int) * 4294967296 + (x0 : Int) := by omega
          have hor := or64 hr b3
          have hgF : decide ((4294967296 : Int) ≤ (g : Int)) = false := by simp; omega
          have hgI : (g : Int) < 4294967296 := by omega
          have hcB : decide ((r : Int) * 4294967296 + (x0 : Int) < (g : Int) * (next : Int)) = false := decide_eq_false (by omega)
          have ha1 : (2 : Int) ≤ (j : Int) + (m : Int) := by omega
          have ha2 : 0 ≤ (j : Int) + (m : Int) - 2 := by omega
          have ha3 : (j : Int) + (m : Int) - 2 < (n : Int) + 1 := by omega
          clear hm7 hC2
          go_wp2_with fail
          have htk := takeAway_at S HSd.out bu j (m + 1) (n + 1 - j) V g bv 0 (m + 1) W4 hOS2 (by rw [HT2.out.1]; exact hNV2) hne (by rw [HSl.out]; omega) (by rw [HSl.out]; omega) (by rw [HT2.out.1]; omega) hgg
          rw [HT2.out.1] at htk
          refine htk.mono ?_
          clear htk
          rintro e w6 ⟨S1, br, hbr, rfl, hS1l, hS1d, hS1t, hS1r, hS1v, hS1b, hOS3, hg3⟩
          have HSa := Lib.hid hS1l
          have HSb := Lib.hid hS1d
          have HSc := Lib.hid hS1t
          have HSe := Lib.hid hS1r
          have HSf := Lib.hid hS1v
          have HSg := Lib.hid hS1b
          clear hS1l hS1d hS1t hS1r hS1v hS1b c3
          have hNV3 : N w6 (.slice (some ⟨bv, 0, none⟩) m (m + 1)) V := by
            have := N.grown (n := V) (o2 := 0) (c2 := m + 1) (by rw [HT2.out.1]; exact hNV2) hg3 hne
            rw [HT2.out.1] at this; exact this
          have hOQ3 : Own w6 bq Q := hOQ2.keep (hg3.block bq hOQ2.lt (fun e => by cases e; omega))
          have hB3 : Below w.heap.size w w6 := hB2.grown hg3 hB2.size (fun k e => by cases e; exact hbu')
          clear hNV2 hOQ2 hOS2 hB2 hg3
          have hjQ : j < Q.length := by have := HQl.out; omega
          by_cases hlt : val (seg S j (m + 1)) < g * V
          · have hdec : decide (val (seg S j (m + 1)) < g * V) = true := decide_eq_true hlt
            have HBR := Lib.hid (HSg.out.2 hlt)
            have hgp : 1 ≤ g := by
              rcases Nat.eq_zero_or_pos (g) with h | h
              · rw [h] at hlt; simp at hlt
              · exact h
            rw [hdec]
            clear hdec
            have HLT := Lib.hid hlt
            clear hlt
            go_wp2_with fail
            have htk := giveBack_at S1 HSb.out bu j (m + 1) (n + 1 - j) V bv 0 (m + 1) w6 hOS3 (by rw [HT2.out.1]; exact hNV3) hne (by rw [HSa.out, HSl.out]; omega) (by rw [HSa.out, HSl.out]; omega) (by rw [HT2.out.1]; omega)
            rw [HT2.out.1] at htk
            refine htk.mono ?_
            clear htk
            rintro e w7 ⟨S2, cr, hcr, rfl, hS2l, hS2d, hS2t, hS2r, hS2v, hOS4, hg4⟩
            have HFIN : Hid (val ((S2.drop j).take (m + 1)) + (g - 1) * V = val (seg S j (m + 1)) ∧ val ((S2.drop j).take (m + 1)) < V) := by
              have h1 := HSf.out
              have h2 := seg_lt hS2d j (m + 1)
              have h3 := HE1.out
              have h4 := HE2.out
              have h5 := HLT.out
              have h6 := HT2.out.2.2.2
              have h7 : B ^ m ≤ B ^ (m + 1) := Nat.pow_le_pow_right B_pos (by omega)
              rw [HBR.out, Nat.mul_one] at h1
              have h8 : g * V = (g - 1) * V + V := by rw [Nat.sub_mul, Nat.one_mul]; have : 1 * V ≤ g * V := Nat.mul_le_mul_right _ hgp; omega
              have : val ((S2.drop j).take (m + 1)) + (g - 1) * V = val (seg S j (m + 1)) ∧ val ((S2.drop j).take (m + 1)) < V := by
                unfold seg at hS2v h1 h2 h3 h5 ⊢
                obtain rfl | rfl : cr = 0 ∨ cr = 1 := by omega
                · rw [Nat.mul_zero] at hS2v; omega
                · rw [Nat.mul_one] at hS2v; omega
              exact this
            have HS2l := Lib.hid (hS2l.trans (HSa.out.trans HSl.out))
            have HR := Lib.hid (over_round (d := g - 1) (U := val (seg S j (m + 1))) HSl.out hjn (hS2l.trans HSa.out) HUl.out hjQ HSt.out HI.out (hS2t.trans HSc.out) (hS2r.trans HSe.out) HSEG.out.2.2.2 HSEG.out.1 HFIN.out.1)
            have HD := Lib.hid (digit_lt (R := val ((S2.drop j).take (m + 1))) (by have := HSEG.out; rw [← this.1] at this; exact this.2.1) HFIN.out.1)
            have HRV2 : Hid (val (S2.drop j) < V) := by
              have : val (S2.drop j) < V := by rw [HR.out.2.2]; exact HFIN.out.2
              exact this
            have HS2d := Lib.hid hS2d
            have hNV4 : N w7 (.slice (some ⟨bv, 0, none⟩) m (m + 1)) V := by
              have := N.grown (n := V) (o2 := 0) (c2 := m + 1) (by rw [HT2.out.1]; exact hNV3) hg4 hne
              rw [HT2.out.1] at this; exact this
            have hOQ4 : Own w7 bq Q := hOQ3.keep (hg4.block bq hOQ3.lt (fun e => by cases e; omega))
            have hB4 : Below w.heap.size w w7 := hB3.grown hg4 hB3.size (fun k e => by cases e; exact hbu')
            clear hNV3 hOQ3 hOS3 hB3 hg4 hS2l hS2t hS2r hS2v HSa HSb HSc HSe HSf HSg hS2d
            have d0 := hOQ4.cell hjQ
            have d1 := hOQ4.frozen j
            have hdB : g - 1 < 4294967296 := HD.out
            have hOS5 := hOS4.far (p := ⟨bq, j, none⟩) (show bu ≠ bq by omega) (.int .u32 (((g - 1 : Nat) : Nat) : Int))
            have hNV5 := (N.grown (n := V) (o2 := 0) (c2 := m + 1) (by rw [HT2.out.1]; exact hNV4) (only_setCell (World.grownBy.refl w7 (some bq)) (i := j) (.int .u32 (((g - 1 : Nat) : Nat) : Int))) (by omega))
            rw [HT2.out.1] at hNV5
            have hOQ5 := hOQ4.set hjQ (g - 1)
            have hB5 := hB4.setCell (p := ⟨bq, j, none⟩) hbq3 (.int .u32 (((g - 1 : Nat) : Nat) : Int))
            have ecast : (.int .u32 (((g - 1 : Nat) : Nat) : Int) : Value) = .int .u32 ((g : Nat) - 1 : Int) := by congr 1; omega
            rw [ecast] at hOS5 hNV5 hOQ5 hB5
            clear ecast hOS4 hNV4 hOQ4 hB4
            go_wp2
            go_roundw
            case rel => exact ⟨j, S2, Q.set j (g - 1), by omega, rfl, HS2l, HS2d, Hid.len_set HQl _ _, Hid.dg_set HQd _ HD.out, Lib.hid HR.out.1, Lib.hid HR.out.2.1, HRV2, hOS5, hOQ5, hNV5, hB5⟩
            case measure => simp [intOf]
          · have hdec : decide (val (seg S j (m + 1)) < g * V) = false := decide_eq_false hlt
            have HBR : Hid (br = 0) := by
              have h1 := HSg.out
              have : br = 0 := by omega
              exact this
            rw [hdec]
            clear hdec
            have HFIN : Hid (val ((S1.drop j).take (m + 1)) + g * V = val (seg S j (m + 1)) ∧ val ((S1.drop j).take (m + 1)) < V) := by
              have h1 := HSf.out
              have h3 := HE1.out
              rw [HBR.out, Nat.mul_zero, Nat.add_zero] at h1
              rw [Nat.add_mul, Nat.one_mul] at h3
              have : val ((S1.drop j).take (m + 1)) + g * V = val (seg S j (m + 1)) ∧ val ((S1.drop j).take (m + 1)) < V := by
                unfold seg at h1 h3 ⊢
                omega
              exact this
            clear hlt
            have HS2l := Lib.hid (HSa.out.trans HSl.out)
            have HR := Lib.hid (over_round (d := g) (U := val (seg S j (m + 1))) HSl.out hjn HSa.out HUl.out hjQ HSt.out HI.out HSc.out HSe.out HSEG.out.2.2.2 HSEG.out.1 HFIN.out.1)
            have HD := Lib.hid (digit_lt (R := val ((S1.drop j).take (m + 1))) (by have := HSEG.out; rw [← this.1] at this; exact this.2.1) HFIN.out.1)
            have HRV2 : Hid (val (S1.drop j) < V) := by
              have : val (S1.drop j) < V := by rw [HR.out.2.2]; exact HFIN.out.2
              exact this
            have HS2d := HSb
            clear HSa HSb HSc HSe HSf HSg
            have d0 := hOQ3.cell hjQ
            have d1 := hOQ3.frozen j
            have hdB : g < 4294967296 := HD.out
            have hOS5 := hOS3.far (p := ⟨bq, j, none⟩) (show bu ≠ bq by omega) (.int .u32 ((g : Nat) : Int))
            have hNV5 := (N.grown (n := V) (o2 := 0) (c2 := m + 1) (by rw [HT2.out.1]; exact hNV3) (only_setCell (World.grownBy.refl w6 (some bq)) (i := j) (.int .u32 ((g : Nat) : Int))) (by omega))
            rw [HT2.out.1] at hNV5
            have hOQ5 := hOQ3.set hjQ (g)
            have hB5 := hB3.setCell (p := ⟨bq, j, none⟩) hbq3 (.int .u32 ((g : Nat) : Int))
            clear hOS3 hNV3 hOQ3 hB3
            go_wp2
            go_roundw
            case rel => exact ⟨j, S1, Q.set j (g), by omega, rfl, HS2l, HS2d, Hid.len_set HQl _ _, Hid.dg_set HQd _ HD.out, Lib.hid HR.out.1, Lib.hid HR.out.2.1, HRV2, hOS5, hOQ5, hNV5, hB5⟩
            case measure => simp [intOf]
        · have hgp : 1 ≤ g := by
            rcases Nat.eq_zero_or_pos g with h0 | h0
            · exfalso; subst h0; simp at hC
            · exact h0
          obtain ⟨g', rfl⟩ : ∃ g', g = g' + 1 := ⟨g - 1, by omega⟩
          have HLess : Hid (val (seg S j (m + 1)) < (g' + 1) * V) := by
            have h1 := HSEG.out
            have : val (seg S j (m + 1)) < (g' + 1) * V := by
              by_cases hgB : 4294967296 ≤ g' + 1
              · have h2 : 4294967296 * V ≤ (g' + 1) * V := Nat.mul_le_mul_right _ hgB
                have h3 := h1.2.1
                rw [← h1.1, B_eq] at h3
                exact Nat.lt_of_lt_of_le h3 h2
              · exact guess_less (two := x2 * 4294967296 + x1) (r := r) HVT.out HTP.out HUL.out HGr.out (by rw [B_eq]; omega)
            exact this
          have HGr2 : Hid (g' * top + (r + top) = x2 * 4294967296 + x1) := by
            have := HGr.out
            rw [Nat.add_mul, Nat.one_mul] at this
            have h2 : g' * top + (r + top) = x2 * 4294967296 + x1 := by omega
            exact h2
          have hgI2 : (g' : Int) ≤ 4294967296 := by omega
          have hgg : g' ≤ 4294967296 := by omega
          have ecast : (((g' + 1 : Nat) : Nat) : Int) = (g' : Int) + 1 := by omega
          rw [ecast]
          have HC := Lib.hid hC
          clear HU HGr hC hgp hg
          have ha1 : (2 : Int) ≤ (j : Int) + (m : Int) := by omega
          have ha2 : 0 ≤ (j : Int) + (m : Int) - 2 := by omega
          have ha3 : (j : Int) + (m : Int) - 2 < (n : Int) + 1 := by omega
          have hor := or64 hr b3
          by_cases hgB : 4294967296 ≤ g' + 1
          · have hgT : decide ((4294967296 : Int) ≤ (g' : Int) + 1) = true := decide_eq_true (by omega)
            have hgI : (4294967296 : Int) ≤ (g' : Int) + 1 := by omega
            clear hgB
            by_cases hrB : 4294967296 ≤ r + top
            · have HE2 := Lib.hid (guess_end (two := x2 * 4294967296 + x1) (r := r + top) HVT.out HTP.out HVL.out (by omega) (show g' ≤ B by rw [B_eq]; omega) HGr2.out (by
                have h1 : g' * next ≤ 4294967296 * next := Nat.mul_le_mul_right _ hgg
                rw [B_eq]; omega))
              have HE1 := HLess
              have hrI : (4294967296 : Int) ≤ (r : Int) + (top : Int) := by omega
              clear hrB
              go_wp2_with fail
              have htk := takeAway_at S HSd.out bu j (m + 1) (n + 1 - j) V g' bv 0 (m + 1) W4 hOS2 (by rw [HT2.out.1]; exact hNV2) hne (by rw [HSl.out]; omega) (by rw [HSl.out]; omega) (by rw [HT2.out.1]; omega) hgg
              rw [HT2.out.1] at htk
              refine htk.mono ?_
              clear htk
              rintro e w6 ⟨S1, br, hbr, rfl, hS1l, hS1d, hS1t, hS1r, hS1v, hS1b, hOS3, hg3⟩
              have HSa := Lib.hid hS1l
              have HSb := Lib.hid hS1d
              have HSc := Lib.hid hS1t
              have HSe := Lib.hid hS1r
              have HSf := Lib.hid hS1v
              have HSg := Lib.hid hS1b
              clear hS1l hS1d hS1t hS1r hS1v hS1b c3
              have hNV3 : N w6 (.slice (some ⟨bv, 0, none⟩) m (m + 1)) V := by
                have := N.grown (n := V) (o2 := 0) (c2 := m + 1) (by rw [HT2.out.1]; exact hNV2) hg3 hne
                rw [HT2.out.1] at this; exact this
              have hOQ3 : Own w6 bq Q := hOQ2.keep (hg3.block bq hOQ2.lt (fun e => by cases e; omega))
              have hB3 : Below w.heap.size w w6 := hB2.grown hg3 hB2.size (fun k e => by cases e; exact hbu')
              clear hNV2 hOQ2 hOS2 hB2 hg3
              have hjQ : j < Q.length := by have := HQl.out; omega
              by_cases hlt : val (seg S j (m + 1)) < g' * V
              · have hdec : decide (val (seg S j (m + 1)) < g' * V) = true := decide_eq_true hlt
                have HBR := Lib.hid (HSg.out.2 hlt)
                have hgp : 1 ≤ g' := by
                  rcases Nat.eq_zero_or_pos (g') with h | h
                  · rw [h] at hlt; simp at hlt
                  · exact h
                rw [hdec]
                clear hdec
                have HLT := Lib.hid hlt
                clear hlt
                go_wp2_with fail
                have htk := giveBack_at S1 HSb.out bu j (m + 1) (n + 1 - j) V bv 0 (m + 1) w6 hOS3 (by rw [HT2.out.1]; exact hNV3) hne (by rw [HSa.out, HSl.out]; omega) (by rw [HSa.out, HSl.out]; omega) (by rw [HT2.out.1]; omega)
                rw [HT2.out.1] at htk
                refine htk.mono ?_
                clear htk
                rintro e w7 ⟨S2, cr, hcr, rfl, hS2l, hS2d, hS2t, hS2r, hS2v, hOS4, hg4⟩
                have HFIN : Hid (val ((S2.drop j).take (m + 1)) + (g' - 1) * V = val (seg S j (m + 1)) ∧ val ((S2.drop j).take (m + 1)) < V) := by
                  have h1 := HSf.out
                  have h2 := seg_lt hS2d j (m + 1)
                  have h3 := HE1.out
                  have h4 := HE2.out
                  have h5 := HLT.out
                  have h6 := HT2.out.2.2.2
                  have h7 : B ^ m ≤ B ^ (m + 1) := Nat.pow_le_pow_right B_pos (by omega)
                  rw [HBR.out, Nat.mul_one] at h1
                  have h8 : g' * V = (g' - 1) * V + V := by rw [Nat.sub_mul, Nat.one_mul]; have : 1 * V ≤ g' * V := Nat.mul_le_mul_right _ hgp; omega
                  have : val ((S2.drop j).take (m + 1)) + (g' - 1) * V = val (seg S j (m + 1)) ∧ val ((S2.drop j).take (m + 1)) < V := by
                    unfold seg at hS2v h1 h2 h3 h5 ⊢
                    obtain rfl | rfl : cr = 0 ∨ cr = 1 := by omega
                    · rw [Nat.mul_zero] at hS2v; omega
                    · rw [Nat.mul_one] at hS2v; omega
                  exact this
                have HS2l := Lib.hid (hS2l.trans (HSa.out.trans HSl.out))
                have HR := Lib.hid (over_round (d := g' - 1) (U := val (seg S j (m + 1))) HSl.out hjn (hS2l.trans HSa.out) HUl.out hjQ HSt.out HI.out (hS2t.trans HSc.out) (hS2r.trans HSe.out) HSEG.out.2.2.2 HSEG.out.1 HFIN.out.1)
                have HD := Lib.hid (digit_lt (R := val ((S2.drop j).take (m + 1))) (by have := HSEG.out; rw [← this.1] at this; exact this.2.1) HFIN.out.1)
                have HRV2 : Hid (val (S2.drop j) < V) := by
                  have : val (S2.drop j) < V := by rw [HR.out.2.2]; exact HFIN.out.2
                  exact this
                have HS2d := Lib.hid hS2d
                have hNV4 : N w7 (.slice (some ⟨bv, 0, none⟩) m (m + 1)) V := by
                  have := N.grown (n := V) (o2 := 0) (c2 := m + 1) (by rw [HT2.out.1]; exact hNV3) hg4 hne
                  rw [HT2.out.1] at this; exact this
                have hOQ4 : Own w7 bq Q := hOQ3.keep (hg4.block bq hOQ3.lt (fun e => by cases e; omega))
                have hB4 : Below w.heap.size w w7 := hB3.grown hg4 hB3.size (fun k e => by cases e; exact hbu')
                clear hNV3 hOQ3 hOS3 hB3 hg4 hS2l hS2t hS2r hS2v HSa HSb HSc HSe HSf HSg hS2d
                have d0 := hOQ4.cell hjQ
                have d1 := hOQ4.frozen j
                have hdB : g' - 1 < 4294967296 := HD.out
                have hOS5 := hOS4.far (p := ⟨bq, j, none⟩) (show bu ≠ bq by omega) (.int .u32 (((g' - 1 : Nat) : Nat) : Int))
                have hNV5 := (N.grown (n := V) (o2 := 0) (c2 := m + 1) (by rw [HT2.out.1]; exact hNV4) (only_setCell (World.grownBy.refl w7 (some bq)) (i := j) (.int .u32 (((g' - 1 : Nat) : Nat) : Int))) (by omega))
                rw [HT2.out.1] at hNV5
                have hOQ5 := hOQ4.set hjQ (g' - 1)
                have hB5 := hB4.setCell (p := ⟨bq, j, none⟩) hbq3 (.int .u32 (((g' - 1 : Nat) : Nat) : Int))
                have ecast : (.int .u32 (((g' - 1 : Nat) : Nat) : Int) : Value) = .int .u32 ((g' : Nat) - 1 : Int) := by congr 1; omega
                rw [ecast] at hOS5 hNV5 hOQ5 hB5
                clear ecast hOS4 hNV4 hOQ4 hB4
                go_wp2
                go_roundw
                case rel => exact ⟨j, S2, Q.set j (g' - 1), by omega, rfl, HS2l, HS2d, Hid.len_set HQl _ _, Hid.dg_set HQd _ HD.out, Lib.hid HR.out.1, Lib.hid HR.out.2.1, HRV2, hOS5, hOQ5, hNV5, hB5⟩
                case measure => simp [intOf]
              · have hdec : decide (val (seg S j (m + 1)) < g' * V) = false := decide_eq_false hlt
                have HBR : Hid (br = 0) := by
                  have h1 := HSg.out
                  have : br = 0 := by omega
                  exact this
                rw [hdec]
                clear hdec
                have HFIN : Hid (val ((S1.drop j).take (m + 1)) + g' * V = val (seg S j (m + 1)) ∧ val ((S1.drop j).take (m + 1)) < V) := by
                  have h1 := HSf.out
                  have h3 := HE1.out
                  rw [HBR.out, Nat.mul_zero, Nat.add_zero] at h1
                  rw [Nat.add_mul, Nat.one_mul] at h3
                  have : val ((S1.drop j).take (m + 1)) + g' * V = val (seg S j (m + 1)) ∧ val ((S1.drop j).take (m + 1)) < V := by
                    unfold seg at h1 h3 ⊢
                    omega
                  exact this
                clear hlt
                have HS2l := Lib.hid (HSa.out.trans HSl.out)
                have HR := Lib.hid (over_round (d := g') (U := val (seg S j (m + 1))) HSl.out hjn HSa.out HUl.out hjQ HSt.out HI.out HSc.out HSe.out HSEG.out.2.2.2 HSEG.out.1 HFIN.out.1)
                have HD := Lib.hid (digit_lt (R := val ((S1.drop j).take (m + 1))) (by have := HSEG.out; rw [← this.1] at this; exact this.2.1) HFIN.out.1)
                have HRV2 : Hid (val (S1.drop j) < V) := by
                  have : val (S1.drop j) < V := by rw [HR.out.2.2]; exact HFIN.out.2
                  exact this
                have HS2d := HSb
                clear HSa HSb HSc HSe HSf HSg
                have d0 := hOQ3.cell hjQ
                have d1 := hOQ3.frozen j
                have hdB : g' < 4294967296 := HD.out
                have hOS5 := hOS3.far (p := ⟨bq, j, none⟩) (show bu ≠ bq by omega) (.int .u32 ((g' : Nat) : Int))
                have hNV5 := (N.grown (n := V) (o2 := 0) (c2 := m + 1) (by rw [HT2.out.1]; exact hNV3) (only_setCell (World.grownBy.refl w6 (some bq)) (i := j) (.int .u32 ((g' : Nat) : Int))) (by omega))
                rw [HT2.out.1] at hNV5
                have hOQ5 := hOQ3.set hjQ (g')
                have hB5 := hB3.setCell (p := ⟨bq, j, none⟩) hbq3 (.int .u32 ((g' : Nat) : Int))
                clear hOS3 hNV3 hOQ3 hB3
                go_wp2
                go_roundw
                case rel => exact ⟨j, S1, Q.set j (g'), by omega, rfl, HS2l, HS2d, Hid.len_set HQl _ _, Hid.dg_set HQd _ HD.out, Lib.hid HR.out.1, Lib.hid HR.out.2.1, HRV2, hOS5, hOQ5, hNV5, hB5⟩
                case measure => simp [intOf]
            · have hrI : (r : Int) + (top : Int) < 4294967296 := by omega
              have hrF : decide ((4294967296 : Int) ≤ (r : Int) + (top : Int)) = false := decide_eq_false (by omega)
              have HrB := Lib.hid hrB
              clear hrB
              go_wp2
              go_round
              case rel => exact ⟨g', r + top, by go_num, by go_num, by omega, by omega, HGr2, HLess⟩
              case measure => simp [intOf]
          · have hgF : decide ((4294967296 : Int) ≤ (g' : Int) + 1) = false := decide_eq_false (by omega)
            have hgI : (g' : Int) + 1 < 4294967296 := by omega
            have hml := mul_le (show g' + 1 < 4294967296 by omega) hnext
            rw [ecast] at hml
            obtain ⟨hm5, hm6⟩ := hml
            have hm8 : (r : Int) * 4294967296 + (x0 : Int) < ((g' : Int) + 1) * (next : Int) := by
              have h1 := HC.out
              have hm7 : (((g' + 1) * next : Nat) : Int) = ((g' : Int) + 1) * (next : Int) := by rw [Int.natCast_mul, ecast]
              omega
            have hcB : decide ((r : Int) * 4294967296 + (x0 : Int) < ((g' : Int) + 1) * (next : Int)) = true := decide_eq_true hm8
            clear hgB
            by_cases hrB : 4294967296 ≤ r + top
            · have HE2 := Lib.hid (guess_end (two := x2 * 4294967296 + x1) (r := r + top) HVT.out HTP.out HVL.out (by omega) (show g' ≤ B by rw [B_eq]; omega) HGr2.out (by
                have h1 : g' * next ≤ 4294967296 * next := Nat.mul_le_mul_right _ hgg
                rw [B_eq]; omega))
              have HE1 := HLess
              have hrI : (4294967296 : Int) ≤ (r : Int) + (top : Int) := by omega
              clear hrB
              go_wp2_with fail
              have htk := takeAway_at S HSd.out bu j (m + 1) (n + 1 - j) V g' bv 0 (m + 1) W4 hOS2 (by rw [HT2.out.1]; exact hNV2) hne (by rw [HSl.out]; omega) (by rw [HSl.out]; omega) (by rw [HT2.out.1]; omega) hgg
              rw [HT2.out.1] at htk
              refine htk.mono ?_
              clear htk
              rintro e w6 ⟨S1, br, hbr, rfl, hS1l, hS1d, hS1t, hS1r, hS1v, hS1b, hOS3, hg3⟩
              have HSa := Lib.hid hS1l
              have HSb := Lib.hid hS1d
              have HSc := Lib.hid hS1t
              have HSe := Lib.hid hS1r
              have HSf := Lib.hid hS1v
              have HSg := Lib.hid hS1b
              clear hS1l hS1d hS1t hS1r hS1v hS1b c3
              have hNV3 : N w6 (.slice (some ⟨bv, 0, none⟩) m (m + 1)) V := by
                have := N.grown (n := V) (o2 := 0) (c2 := m + 1) (by rw [HT2.out.1]; exact hNV2) hg3 hne
                rw [HT2.out.1] at this; exact this
              have hOQ3 : Own w6 bq Q := hOQ2.keep (hg3.block bq hOQ2.lt (fun e => by cases e; omega))
              have hB3 : Below w.heap.size w w6 := hB2.grown hg3 hB2.size (fun k e => by cases e; exact hbu')
              clear hNV2 hOQ2 hOS2 hB2 hg3
              have hjQ : j < Q.length := by have := HQl.out; omega
              by_cases hlt : val (seg S j (m + 1)) < g' * V
              · have hdec : decide (val (seg S j (m + 1)) < g' * V) = true := decide_eq_true hlt
                have HBR := Lib.hid (HSg.out.2 hlt)
                have hgp : 1 ≤ g' := by
                  rcases Nat.eq_zero_or_pos (g') with h | h
                  · rw [h] at hlt; simp at hlt
                  · exact h
                rw [hdec]
                clear hdec
                have HLT := Lib.hid hlt
                clear hlt
                go_wp2_with fail
                have htk := giveBack_at S1 HSb.out bu j (m + 1) (n + 1 - j) V bv 0 (m + 1) w6 hOS3 (by rw [HT2.out.1]; exact hNV3) hne (by rw [HSa.out, HSl.out]; omega) (by rw [HSa.out, HSl.out]; omega) (by rw [HT2.out.1]; omega)
                rw [HT2.out.1] at htk
                refine htk.mono ?_
                clear htk
                rintro e w7 ⟨S2, cr, hcr, rfl, hS2l, hS2d, hS2t, hS2r, hS2v, hOS4, hg4⟩
                have HFIN : Hid (val ((S2.drop j).take (m + 1)) + (g' - 1) * V = val (seg S j (m + 1)) ∧ val ((S2.drop j).take (m + 1)) < V) := by
                  have h1 := HSf.out
                  have h2 := seg_lt hS2d j (m + 1)
                  have h3 := HE1.out
                  have h4 := HE2.out
                  have h5 := HLT.out
                  have h6 := HT2.out.2.2.2
                  have h7 : B ^ m ≤ B ^ (m + 1) := Nat.pow_le_pow_right B_pos (by omega)
                  rw [HBR.out, Nat.mul_one] at h1
                  have h8 : g' * V = (g' - 1) * V + V := by rw [Nat.sub_mul, Nat.one_mul]; have : 1 * V ≤ g' * V := Nat.mul_le_mul_right _ hgp; omega
                  have : val ((S2.drop j).take (m + 1)) + (g' - 1) * V = val (seg S j (m + 1)) ∧ val ((S2.drop j).take (m + 1)) < V := by
                    unfold seg at hS2v h1 h2 h3 h5 ⊢
                    obtain rfl | rfl : cr = 0 ∨ cr = 1 := by omega
                    · rw [Nat.mul_zero] at hS2v; omega
                    · rw [Nat.mul_one] at hS2v; omega
                  exact this
                have HS2l := Lib.hid (hS2l.trans (HSa.out.trans HSl.out))
                have HR := Lib.hid (over_round (d := g' - 1) (U := val (seg S j (m + 1))) HSl.out hjn (hS2l.trans HSa.out) HUl.out hjQ HSt.out HI.out (hS2t.trans HSc.out) (hS2r.trans HSe.out) HSEG.out.2.2.2 HSEG.out.1 HFIN.out.1)
                have HD := Lib.hid (digit_lt (R := val ((S2.drop j).take (m + 1))) (by have := HSEG.out; rw [← this.1] at this; exact this.2.1) HFIN.out.1)
                have HRV2 : Hid (val (S2.drop j) < V) := by
                  have : val (S2.drop j) < V := by rw [HR.out.2.2]; exact HFIN.out.2
                  exact this
                have HS2d := Lib.hid hS2d
                have hNV4 : N w7 (.slice (some ⟨bv, 0, none⟩) m (m + 1)) V := by
                  have := N.grown (n := V) (o2 := 0) (c2 := m + 1) (by rw [HT2.out.1]; exact hNV3) hg4 hne
                  rw [HT2.out.1] at this; exact this
                have hOQ4 : Own w7 bq Q := hOQ3.keep (hg4.block bq hOQ3.lt (fun e => by cases e; omega))
                have hB4 : Below w.heap.size w w7 := hB3.grown hg4 hB3.size (fun k e => by cases e; exact hbu')
                clear hNV3 hOQ3 hOS3 hB3 hg4 hS2l hS2t hS2r hS2v HSa HSb HSc HSe HSf HSg hS2d
                have d0 := hOQ4.cell hjQ
                have d1 := hOQ4.frozen j
                have hdB : g' - 1 < 4294967296 := HD.out
                have hOS5 := hOS4.far (p := ⟨bq, j, none⟩) (show bu ≠ bq by omega) (.int .u32 (((g' - 1 : Nat) : Nat) : Int))
                have hNV5 := (N.grown (n := V) (o2 := 0) (c2 := m + 1) (by rw [HT2.out.1]; exact hNV4) (only_setCell (World.grownBy.refl w7 (some bq)) (i := j) (.int .u32 (((g' - 1 : Nat) : Nat) : Int))) (by omega))
                rw [HT2.out.1] at hNV5
                have hOQ5 := hOQ4.set hjQ (g' - 1)
                have hB5 := hB4.setCell (p := ⟨bq, j, none⟩) hbq3 (.int .u32 (((g' - 1 : Nat) : Nat) : Int))
                have ecast : (.int .u32 (((g' - 1 : Nat) : Nat) : Int) : Value) = .int .u32 ((g' : Nat) - 1 : Int) := by congr 1; omega
                rw [ecast] at hOS5 hNV5 hOQ5 hB5
                clear ecast hOS4 hNV4 hOQ4 hB4
                go_wp2
                go_roundw
                case rel => exact ⟨j, S2, Q.set j (g' - 1), by omega, rfl, HS2l, HS2d, Hid.len_set HQl _ _, Hid.dg_set HQd _ HD.out, Lib.hid HR.out.1, Lib.hid HR.out.2.1, HRV2, hOS5, hOQ5, hNV5, hB5⟩
                case measure => simp [intOf]
              · have hdec : decide (val (seg S j (m + 1)) < g' * V) = false := decide_eq_false hlt
                have HBR : Hid (br = 0) := by
                  have h1 := HSg.out
                  have : br = 0 := by omega
                  exact this
                rw [hdec]
                clear hdec
                have HFIN : Hid (val ((S1.drop j).take (m + 1)) + g' * V = val (seg S j (m + 1)) ∧ val ((S1.drop j).take (m + 1)) < V) := by
                  have h1 := HSf.out
                  have h3 := HE1.out
                  rw [HBR.out, Nat.mul_zero, Nat.add_zero] at h1
                  rw [Nat.add_mul, Nat.one_mul] at h3
                  have : val ((S1.drop j).take (m + 1)) + g' * V = val (seg S j (m + 1)) ∧ val ((S1.drop j).take (m + 1)) < V := by
                    unfold seg at h1 h3 ⊢
                    omega
                  exact this
                clear hlt
                have HS2l := Lib.hid (HSa.out.trans HSl.out)
                have HR := Lib.hid (over_round (d := g') (U := val (seg S j (m + 1))) HSl.out hjn HSa.out HUl.out hjQ HSt.out HI.out HSc.out HSe.out HSEG.out.2.2.2 HSEG.out.1 HFIN.out.1)
                have HD := Lib.hid (digit_lt (R := val ((S1.drop j).take (m + 1))) (by have := HSEG.out; rw [← this.1] at this; exact this.2.1) HFIN.out.1)
                have HRV2 : Hid (val (S1.drop j) < V) := by
                  have : val (S1.drop j) < V := by rw [HR.out.2.2]; exact HFIN.out.2
                  exact this
                have HS2d := HSb
                clear HSa HSb HSc HSe HSf HSg
                have d0 := hOQ3.cell hjQ
                have d1 := hOQ3.frozen j
                have hdB : g' < 4294967296 := HD.out
                have hOS5 := hOS3.far (p := ⟨bq, j, none⟩) (show bu ≠ bq by omega) (.int .u32 ((g' : Nat) : Int))
                have hNV5 := (N.grown (n := V) (o2 := 0) (c2 := m + 1) (by rw [HT2.out.1]; exact hNV3) (only_setCell (World.grownBy.refl w6 (some bq)) (i := j) (.int .u32 ((g' : Nat) : Int))) (by omega))
                rw [HT2.out.1] at hNV5
                have hOQ5 := hOQ3.set hjQ (g')
                have hB5 := hB3.setCell (p := ⟨bq, j, none⟩) hbq3 (.int .u32 ((g' : Nat) : Int))
                clear hOS3 hNV3 hOQ3 hB3
                go_wp2
                go_roundw
                case rel => exact ⟨j, S1, Q.set j (g'), by omega, rfl, HS2l, HS2d, Hid.len_set HQl _ _, Hid.dg_set HQd _ HD.out, Lib.hid HR.out.1, Lib.hid HR.out.2.1, HRV2, hOS5, hOQ5, hNV5, hB5⟩
                case measure => simp [intOf]
            · have hrI : (r : Int) + (top : Int) < 4294967296 := by omega
              have hrF : decide ((4294967296 : Int) ≤ (r : Int) + (top : Int)) = false := decide_eq_false (by omega)
              have HrB := Lib.hid hrB
              clear hrB
              go_wp2
              go_round
              case rel => exact ⟨g', r + top, by go_num, by go_num, by omega, by omega, HGr2, HLess⟩
              case measure => simp [intOf]

theorem over_at (x y : Nat) (v u : Value) (w : World) (hx : N w v x) (hy : N w u y) (hxl : wlen x ≤ 1000000000) (hy0 : 0 < y) : Calls Tryz.prog 103 #[v, u] w (OverPost w x y) := by
  have h0 : wlen y ≠ 0 := by have := @wlen_eq_zero y; omega
  by_cases h : x < y
  · exact over_less x y v u w hx hy h
  · by_cases h1 : wlen y = 1
    · exact over_one x y v u w hx hy hxl (by omega) h1
    · exact over_many x y v u w hx hy hxl (by omega) (by omega)
end Nm
end Go.Proofs.YtemenlcigengeaaGreatDoor
