/- divide of the reference's natural numbers. divisor of the reference's natural numbers: the greatest common divisor. -/
import Derived.Test.YtemenlcigengeaaGreatDoorTq27
import Derived.Deep.Cut
import Derived.Deep.LoopGhost
namespace Go.Proofs.YtemenlcigengeaaGreatDoor
open Go.RowKit
namespace Nt
def OverPost (w : World) (x y : Nat) (e : Ending) (w' : World) : Prop := ∃ v1 v2, e = .returned (.tuple #[v1, v2]) ∧ N w' v1 (x / y) ∧ N w' v2 (x % y) ∧ Below w.heap.size w w'
theorem N.zero (w : World) : N w (.slice none 0 0) 0 := by unfold N; rw [wlen_zero, digs_zero]; exact Sl.nil w
theorem below_undrewN {B k : Nat} {a w : World} (h : Below B (a.drewN k) w) : Below B a w := ⟨h.os, h.tape, h.output, h.size, h.block⟩
set_option maxRecDepth 100000 in
set_option maxHeartbeats 4000000 in
theorem divide_less (x y : Nat) (v u : Value) (w : World) (hx : N w v x) (hy : N w u y) (h : x < y) : Calls Tryz.prog 112 #[v, u] w (OverPost w x y) := by
  have HX := Lib.hid hx
  have HY := Lib.hid hy
  clear hx hy
  have hcmp : cmpN x y = -1 := cmpN_lt h
  go_enter Tryz.func112, Tryz.ntmps112
  go_wp2_with fail
  refine (order_at x y v u w HX.out HY.out).mono ?_
  rw [hcmp]
  rintro e w' ⟨rfl, k, rfl⟩
  clear hcmp
  go_wp2
  go_ret2
  exact ⟨_, _, rfl, by rw [Nat.div_eq_of_lt h]; exact N.zero _, by rw [Nat.mod_eq_of_lt h]; exact HX.out, below_drewN (Below.refl _ _) _⟩
set_option maxRecDepth 100000 in
set_option maxHeartbeats 4000000 in
theorem divide_one (x y : Nat) (v u : Value) (w : World) (hx : N w v x) (hy : N w u y) (hxl : wlen x ≤ 1000000000) (h : y ≤ x) (hy1 : wlen y = 1) : Calls Tryz.prog 112 #[v, u] w (OverPost w x y) := by
  have HX := Lib.hid hx
  have HY := Lib.hid hy
  have hc : 0 ≤ cmpN x y := by have := @cmpN_neg x y; omega
  obtain ⟨a', c', rfl, s2⟩ := hy.open_
  have hyl : (digs y).length = 1 := hy1
  have hy0 : (digs y)[0] = y := by
    have e := val_take_succ (digs y) 0 (by omega)
    rw [List.take_of_length_le (by omega), val_digs] at e
    simpa [val] using e.symm
  have hyd := (digs_dg y).get (k := 0) (by omega)
  obtain ⟨b, o, rfl, e0⟩ := sl_addr s2 (wcs_get (k := 0) (by omega))
  rw [hy0, Nat.add_zero] at e0
  rw [hy0, B_eq] at hyd
  have hypos : 0 < y := by have := @wlen_eq_zero y; omega
  rw [hyl] at s2 HY ⊢
  clear hx hy hyl hy0 hy1
  generalize hcm : cmpN x y = cm at hc
  have HCM := Lib.hid hcm
  clear hcm
  go_enter Tryz.func112, Tryz.ntmps112
  go_wp2_with fail
  refine (order_at x y v _ w HX.out HY.out).mono ?_
  rw [HCM.out]
  rintro e w1 ⟨rfl, k, rfl⟩
  go_wp2_with fail
  refine (short_at x y v _ (show N (w.drewN k) v x from HX.out) hypos (by omega) (by omega)).mono ?_
  rintro e w2 ⟨v2, rfl, hq, hb2⟩
  have hr := Nat.mod_lt x hypos
  go_wp2_with fail
  refine (small_at (x % y) (by omega) w2).mono ?_
  rintro e w3 ⟨v3, rfl, hr3, hb3⟩
  go_wp2
  go_ret2
  exact ⟨_, _, rfl, hq.ext hb3, hr3, ext_trans (below_undrewN hb2) hb3⟩
structure DL (w0 wr : World) (x y f m n g bq bv cv : Nat) (u0 : List Nat) (V k : Nat) (S Q : List Nat) : Prop where
  sl : S.length = n + 1
  sd : Dg S
  ql : Q.length = n + 1 - m
  qd : Dg Q
  st : S.take k = u0.take k
  iv : val (u0.drop k) = val (Q.drop k) * V + val (S.drop k)
  lt : val (S.drop k) < V
  os : Own wr g S
  oq : Own wr bq Q
  nv : N wr (.slice (some ⟨bv, 0, none⟩) m cv) V
  low : Below w0.heap.size w0 wr
set_option maxRecDepth 100000 in
set_option maxHeartbeats 40000000 in
theorem divide_many (x y : Nat) (v u : Value) (w : World) (hx : N w v x) (hy : N w u y) (hxl : wlen x ≤ 1000000000) (h : y ≤ x) (hy2 : 2 ≤ wlen y) : Calls Tryz.prog 112 #[v, u] w (OverPost w x y) := by
  have HX := Lib.hid hx
  have HY := Lib.hid hy
  have hc : 0 ≤ cmpN x y := by have := @cmpN_neg x y; omega
  have hxy := wlen_mono h
  obtain ⟨m, hm⟩ : ∃ m, wlen y = m := ⟨_, rfl⟩
  obtain ⟨n, hn⟩ : ∃ n, wlen x = n := ⟨_, rfl⟩
  obtain ⟨a', c', rfl, s2⟩ := hy.open_
  obtain ⟨a1, c1, rfl, s1⟩ := hx.open_
  obtain ⟨q1, q2⟩ := sl_caps s2
  obtain ⟨q3, q4⟩ := sl_caps s1
  have hyl : (digs y).length = m := hm
  have hxl' : (digs x).length = n := hn
  have hyd := (digs_dg y).get (k := m - 1) (by omega)
  have hwd := wd_get (l := digs y) (k := m - 1) (by omega)
  obtain ⟨b, o, rfl, e0⟩ := sl_addr s2 (wcs_get (k := m - 1) (by omega))
  have ht0 : 0 < (digs y)[m - 1] := by
    have := digs_can y (by intro h; rw [h] at hyl; simp at hyl; omega)
    rw [List.getLast_eq_getElem] at this
    simp only [hyl] at this
    omega
  generalize (digs y)[m - 1] = t0 at *
  have hFK := factor_ok ht0 hyd
  rw [B_eq] at hyd
  rw [hyl] at s2 HY q1 ⊢
  rw [hxl'] at s1 HX q3 ⊢
  rw [hm] at hy2 hxy
  rw [hn] at hxl hxy
  have HM := Lib.hid hm
  have HN := Lib.hid hn
  have HWD := Lib.hid hwd
  have hypos : 0 < y := by
    rcases Nat.eq_zero_or_pos y with h0 | h0
    · subst h0; rw [wlen_zero] at hm; omega
    · exact h0
  clear hx hy hyl hxl' hm hn hwd h
  generalize hcm : cmpN x y = cm at hc
  have HCM := Lib.hid hcm
  clear hcm
  have hb1 : ((m : Int) == 1) = false := by simp; omega
  have hm1 : ((m - 1 : Nat) : Int) = (m : Int) - 1 := by omega
  obtain ⟨f, hf⟩ : ∃ f, f = 1000000000 / (t0 + 1) := ⟨_, rfl⟩
  rw [← hf] at hFK
  have HTOP := Lib.hid (norm_top (f := f) HM.out (by omega) HWD.out hFK.1 hFK.2.1)
  have hf1 := hFK.2.2
  have hf2 : f ≤ 1000000000 := by rw [hf]; exact Nat.div_le_self _ _
  have d1 : (1000000000 : Int).tdiv ((t0 : Int) + 1) = (f : Int) := by rw [hf]; rfl
  have d2 : (1000000000 : Int) / ((t0 : Int) + 1) = (f : Int) := by rw [hf]; rfl
  have hne : ((t0 : Int) + 1 == 0) = false := by simp; omega
  clear hf hFK HWD
  go_enter Tryz.func112, Tryz.ntmps112
  go_wp2_with fail
  refine (order_at x y _ _ w HX.out HY.out).mono ?_
  rw [HCM.out]
  rintro e w1 ⟨rfl, k0, rfl⟩
  have hN0 : N (w.drewN k0) (.slice a1 n c1) x := HX.out
  have hB0 : Below w.heap.size w (w.drewN k0) := below_drewN (Below.refl _ _) _
  have hY0 : N (w.drewN k0) (.slice (some ⟨b, o, none⟩) m c') y := HY.out
  have e1 : (w.drewN k0).cell? ⟨b, o + (m - 1), none⟩ = some (.int .i64 (t0 : Int)) := e0
  clear e0 HX HY s2 s1
  generalize w.drewN k0 = W0 at *
  go_wp2_with fail
  have hsc := scaled_row x f _ W0 hN0 hf1 hf2 (by rw [HN.out]; exact hxl)
  refine hsc.mono ?_
  clear hsc
  rintro e w3 ⟨vx, rfl, hrx, hB3⟩
  clear d1 d2 hne e1
  have hY3 := hY0.ext hB3
  have HRX := Lib.hid hrx
  clear hrx hN0 hY0
  go_wp2_with fail
  have hsc := scaled_row y f _ w3 hY3 hf1 hf2 (by rw [HM.out]; omega)
  refine hsc.mono ?_
  clear hsc
  rintro e w4 ⟨vy, rfl, hry, hB4⟩
  obtain ⟨V, hV⟩ : ∃ V, y * f = V := ⟨_, rfl⟩
  obtain ⟨X, hX⟩ : ∃ X, x * f = X := ⟨_, rfl⟩
  have HVE := Lib.hid hV
  have HXE := Lib.hid hX
  have HT2 : Hid (wlen V = m ∧ 500000000 ≤ wd (digs V) (m - 1) ∧ B ^ (m - 1) * f ≤ V ∧ V < B ^ m) := by
    have := HTOP.out
    rw [hV] at this
    exact this
  have hRX : Row w4 W0.heap.size vx (digs X) := by rw [← hX]; exact HRX.out.ext hB4
  rw [hV] at hry
  have hvl : (digs V).length = m := HT2.out.1
  obtain ⟨bv, cv, rfl, hbv, hcv1, hcv2, hOv⟩ := hry.own (by omega)
  have hNV : N w4 (.slice (some ⟨bv, 0, none⟩) m cv) V := by
    have := N.ofRow hry
    rw [hvl] at this
    exact this
  rw [hvl] at hcv1 ⊢
  have hXx : x ≤ X := by rw [← hX]; exact Nat.le_mul_of_pos_right _ hf1
  have hXl : wlen X ≤ n + 1 := by
    rw [← hX]
    have h1 := wlen_mul x f
    have h2 : wlen f ≤ 1 ∨ f = 1000000000 := by
      rcases Nat.lt_or_ge f 1000000000 with h | h
      · left; exact wlen_le (by rw [Nat.pow_one, B_eq]; exact h)
      · right; omega
    rcases h2 with h2 | h2
    · have := HN.out; omega
    · subst h2
      refine wlen_le ?_
      have h3 := lt_pow_wlen x
      rw [HN.out] at h3
      rw [Nat.pow_succ, B_eq]
      exact Nat.mul_lt_mul_of_pos_right h3 (by decide)
  have hXn : n ≤ wlen X := by
    have := wlen_mono hXx
    have := HN.out
    omega
  obtain ⟨bx, cx0, hvx, hbx, hcx1, hcx2, hOx⟩ := hRX.own (by unfold wlen at hXn; omega)
  have hne : bx ≠ bv := by
    have h1 := HRX.out
    rw [hX] at h1
    have h2 := h1.own (by unfold wlen at hXn; omega)
    obtain ⟨g', c'', hv', _, _, _, hO'⟩ := h2
    rw [hvx] at hv'
    cases hv'
    have := hO'.lt
    omega
  have hB04 := ext_trans (ext_trans hB0 hB3) hB4
  have hWB : W0.heap.size ≤ w4.heap.size := Nat.le_trans hB3.size hB4.size
  have hWw : w.heap.size ≤ W0.heap.size := hB0.size
  have hbvlt := hOv.lt
  have HXL : Hid (Dg (digs X) ∧ val (digs X) = X) := by
    have : Dg (digs X) ∧ val (digs X) = X := ⟨digs_dg X, val_digs X⟩
    exact this
  have hxlen : (digs X).length ≤ n + 1 := hXl
  have hxlen2 : n ≤ (digs X).length := hXn
  clear hY3 hB0 hB3 hB4 hV hX HTOP HRX hry hOx hOv hXx hXl hXn hcx1 hcx2 hvl
  unfold maxLen at hcv2
  go_wp2
  have hown0 : ∀ k, vx.ownBlock = some k → k ≠ bv := fun k hk => by rw [hvx] at hk; cases hk; exact hne
  have HOB := Lib.hid hown0
  subst hvx
  clear hown0 hne hbx
  go_loopw [9] (fun xv wr => ∃ (l : List Nat), n ≤ l.length ∧ l.length ≤ n + 1 ∧ Row wr W0.heap.size xv l ∧ Hid (Dg l ∧ val l = X) ∧ Hid (∀ k, xv.ownBlock = some k → k ≠ bv) ∧ N wr (.slice (some ⟨bv, 0, none⟩) m cv) V ∧ bv < wr.heap.size ∧ Below w.heap.size w wr ∧ W0.heap.size ≤ wr.heap.size) (fun xv _ => match xv with | .slice _ l _ => n + 2 - l | _ => 0)
  case atStart => exact ⟨_, hxlen2, hxlen, hRX, HXL, HOB, hNV, hbvlt, hB04, hWB⟩
  case round =>
    clear hxlen2 hxlen hRX HXL HOB hNV hbvlt hB04 hWB
    obtain ⟨l, hl1, hl2, hrx, HL, HOB, hNV, hbvlt, hBw, hW0⟩ := hrel
    obtain ⟨g, cap, rfl, hg, hcap1, hcap2, hOx⟩ := hrx.own (by omega)
    unfold maxLen at hcap2
    by_cases hlt : l.length ≤ n
    · have HL2 : Hid (Dg (l ++ [0]) ∧ val (l ++ [0]) = X) := by
        have : Dg (l ++ [0]) ∧ val (l ++ [0]) = X := ⟨HL.out.1.append (Dg.cons.2 ⟨B_pos, Dg.nil⟩), by rw [val_append, HL.out.2]; simp [val]⟩
        exact this
      have HLL : Hid ((l ++ [0]).length = l.length + 1) := by
        have : (l ++ [0]).length = l.length + 1 := by rw [List.length_append]; rfl
        exact this
      clear hOx
      go_wp2_with (at_builtin; refine wpList_append_wd2 rfl _ _ rfl W0.heap.size rfl hrx 0 rfl rfl (by omega) hW0 ?_; intro v' w' hr' hb' hk' hob')
      have hNV' : N w' (.slice (some ⟨bv, 0, none⟩) m cv) V := by
        obtain ⟨a9, cap9, hv9, h91, h92, h90, h93⟩ := hNV
        cases hv9
        refine ⟨_, cv, rfl, h91, h92, h90, fun i x hx => ?_⟩
        obtain ⟨b9, o9, ha9, hc9⟩ := h93 i x hx
        cases ha9
        exact ⟨bv, 0, rfl, (World.cell?_of_block (hk' bv hbvlt (fun e => HOB.out bv e rfl))).trans hc9⟩
      have HOB' : Hid (∀ k, v'.ownBlock = some k → k ≠ bv) := by
        have : ∀ k, v'.ownBlock = some k → k ≠ bv := fun k hk => by
          rcases hob' with h | ⟨k2, h, hlt2⟩
          · exact HOB.out k (h ▸ hk)
          · rw [h] at hk; cases hk; omega
        exact this
      have hlt9 := hb'.size
      have hbs : bv < w'.heap.size := by
        have := hr'.ext (Below.refl _ _)
        have h1 := World.block_lt_of_cell? w' (a := ⟨bv, 0, none⟩) (u := .int .i64 (wd (digs V) 0 : Int)) ?_
        · exact h1
        · obtain ⟨_, _, hbo, f1⟩ := sl_addr (show Sl w' (.slice (some ⟨bv, 0, none⟩) m cv) m (wcs (digs V)) by have := hNV'; unfold N at this; rw [HT2.out.1] at this; exact this) (wcs_get (k := 0) (show 0 < (digs V).length by have := HT2.out.1; unfold wlen at this; omega))
          cases hbo
          rw [wd_get (show 0 < (digs V).length by have := HT2.out.1; unfold wlen at this; omega)]
          exact f1
      obtain ⟨g2, cap2, rfl, _⟩ := hr'.own (by rw [HLL.out]; omega)
      rw [HLL.out] at hr' ⊢
      go_roundw
      case rel => exact ⟨l ++ [0], by rw [HLL.out]; omega, by rw [HLL.out]; omega, by first | exact hr' | (rw [HLL.out]; exact hr'), HL2, HOB', hNV', hbs, (hBw.trans (hb'.mono hWw)), by omega⟩
      case measure => simp <;> omega
    · have hln : l.length = n + 1 := by omega
      have hgv : g ≠ bv := HOB.out g rfl
      rw [hln] at hcap1 ⊢
      have HLN := Lib.hid hln
      clear hln hlt hl1 hl2 hrx HOB
      go_wp2_with (refine wpList_make_words rfl _ _ rfl (n + 1 - m) rfl rfl ?_ ?_ ?_; rotate_left 2; intro W1 hOq hB5 hsz5)
      case refine_1 => go_num
      case refine_2 => omega
      have hOx1 := hOx.ext hB5
      have hNV1 := hNV.ext hB5
      have hBw1 : Below w.heap.size w W1 := hBw.trans (hB5.mono hBw.size)
      have hgq : g < wr.heap.size := hOx.lt
      have hwq : w.heap.size ≤ wr.heap.size := hBw.size
      have hwg : w.heap.size ≤ g := Nat.le_trans hWw hg
      have HD0 : Hid (DL w W1 x y f m n g wr.heap.size bv cv l V (n + 1 - m) l (List.replicate (n + 1 - m) 0)) := by
        have : DL w W1 x y f m n g wr.heap.size bv cv l V (n + 1 - m) l (List.replicate (n + 1 - m) 0) := by
          refine ⟨HLN.out, HL.out.1, by simp, Dg.zeros _, rfl, ?_, ?_, hOx1, hOq, hNV1, hBw1⟩
          · rw [show (List.replicate (n + 1 - m) 0).drop (n + 1 - m) = [] from List.drop_of_length_le (by simp)]; simp [val]
          · exact start_lt hf1 HLN.out (by rw [HL.out.2, HXE.out]) (by have := lt_pow_wlen x; rwa [HN.out] at this) HT2.out.2.2.1 (by omega) hxy
        exact this
      clear hOx1 hNV1 hBw1 hOq hB5 hsz5 hOx hNV hBw
      generalize wr.heap.size = bq at *
      have hqv : bv ≠ bq := by omega
      have hgv2 : bv ≠ g := fun e => hgv e.symm
      clear hgv hbvlt
      go_wp2
      go_loopw [13] (fun jv wr => ∃ (k : Nat) (S Q : List Nat), k ≤ n + 1 - m ∧ jv = .int .i64 ((k : Int) - 1) ∧ Hid (DL w wr x y f m n g bq bv cv l V k S Q)) (fun jv _ => (intOf jv + 1).toNat)
      case atStart => exact ⟨n + 1 - m, _, _, Nat.le_refl _, (by refine congrArg (Value.int .i64) ?_; omega), HD0⟩
      case round =>
        clear HD0
        obtain ⟨wx, rfl⟩ : ∃ z, z = wr := ⟨_, rfl⟩
        obtain ⟨k, S, Q, hk, rfl, HDL⟩ := hrel
        cases k with
        | zero =>
          have HF : Hid (val Q = x / y ∧ val S / f = x % y) := by
            have h1 := HDL.out.iv
            have h2 := HDL.out.lt
            rw [List.drop_zero, List.drop_zero, List.drop_zero, HL.out.2] at h1
            rw [List.drop_zero] at h2
            rw [← HVE.out] at h1 h2
            rw [← HXE.out] at h1
            have := shift_div hf1 hypos h1 h2
            exact this
          have hOS := HDL.out.os
          have hSl := HDL.out.sl
          have hs := hOS.sl (c := cap) (by rw [hSl]; exact hcap1) (by unfold maxLen; exact hcap2)
          have hT := trim_at S HDL.out.sd _ _ hs
          rw [hSl] at hT
          have hQl := HDL.out.ql
          have hs2 := HDL.out.oq.sl (c := n + 1 - m) (by rw [hQl]; omega) (by unfold maxLen; omega)
          have HS2 := Lib.hid hs2
          have HQD := Lib.hid HDL.out.qd
          have HQL := Lib.hid hQl
          have HLW := Lib.hid HDL.out.low
          have hwS : wlen (val S) ≤ 2000000000 := by
            have h1 := val_lt HDL.out.sd
            have := wlen_le h1
            omega
          have HWS := Lib.hid hwS
          have HSL := Lib.hid hSl
          clear hOS hSl hQl hs hs2 hwS HDL
          go_wp2_with fail
          refine Calls.mono hT ?_
          clear hT
          rintro e w' ⟨v2, rfl, hv2, rfl⟩
          go_wp2_with fail
          refine (short_at (val S) f v2 _ hv2 hf1 hf2 HWS.out).mono ?_
          rintro e w9 ⟨v3, rfl, hv3, hb9⟩
          rw [HF.out.2] at hv3
          have hs3 := HS2.out.ext hb9
          have hT4 := trim_at Q HQD.out _ _ hs3
          rw [HQL.out, HF.out.1] at hT4
          have HR3 := Lib.hid hv3
          have HLW9 := Lib.hid (ext_trans HLW.out hb9)
          clear hs3 hv3 hb9
          go_wp2_with fail
          refine Calls.mono hT4 ?_
          clear hT4
          rintro e w' ⟨v5, rfl, hv5, rfl⟩
          go_wp2
          go_ret2
          exact ⟨_, _, rfl, hv5, HR3.out, HLW9.out⟩
        | succ j =>
          rw [show (((j + 1 : Nat) : Int) - 1) = (j : Int) by omega]
          have hjn : j + m ≤ n := by omega
          have hD := HDL.out
          have hSl := hD.sl
          have hjS : j + m + 1 ≤ S.length := by omega
          have hjQ : j < Q.length := by have := hD.ql; omega
          have HSEG := Lib.hid (seg_all hjS hD.lt (hD.sd.get (by omega)) HT2.out.2.2.2)
          have hsegU : val (seg S j (m + 1)) < B * V := by
            have := HSEG.out
            unfold seg
            rw [this.1]; exact this.2.1
          have hcapM : cap ≤ maxLen := by unfold maxLen; exact hcap2
          have hcvM : cv ≤ maxLen := by unfold maxLen; exact hcv2
          have hG := guess_at S hD.sd g j cap V bv 0 cv wx hD.os (by rw [HT2.out.1]; exact hD.nv) (by rw [HT2.out.1]; exact hy2) (by rw [HT2.out.1]; exact hjS) (by omega) (by omega) hcapM (by rw [HT2.out.1]; exact hcv1) hcvM (by rw [HT2.out.1]; exact HT2.out.2.1) (by rw [HT2.out.1]; exact hsegU)
          rw [HT2.out.1, hSl] at hG
          have HG := Lib.hid hG
          have HSL := Lib.hid hSl
          have HDJ := Lib.hid (And.intro hjS hjQ)
          clear hG hD hSl hjQ hsegU hcapM hcvM
          go_wp2_with fail
          refine HG.out.mono ?_
          rintro e w6 ⟨q, rfl, hq9, hgu1, hgu2, kk, rfl⟩
          have HGU := Lib.hid (And.intro hgu1 hgu2)
          clear hgu1 hgu2 HG
          have hjQ := HDJ.out.2
          have hOQ : Own (wx.drewN kk) bq Q := HDL.out.oq
          have d0 := hOQ.cell hjQ
          have d1 := hOQ.frozen j
          have hjI : (j : Int) < ((n + 1 - m : Nat) : Int) := by omega
          go_upto_region 16 with (fail)
          obtain ⟨W7, hW7⟩ : ∃ W7, W7 = (wx.drewN kk).setCell ⟨bq, j, none⟩ (.int .i64 (q : Int)) := ⟨_, rfl⟩
          rw [← hW7]
          have hOQ7 : Own W7 bq (Q.set j q) := by rw [hW7]; exact hOQ.set hjQ q
          have hOS7 : Own W7 g S := by rw [hW7]; exact Own.far (show Own (wx.drewN kk) g S from HDL.out.os) (p := ⟨bq, j, none⟩) (show g ≠ bq by omega) _
          have hNV7 : N W7 (.slice (some ⟨bv, 0, none⟩) (wlen V) cv) V := by
            rw [hW7]
            exact N.grown (show N (wx.drewN kk) (.slice (some ⟨bv, 0, none⟩) (wlen V) cv) V by rw [HT2.out.1]; exact HDL.out.nv) (only_setCell (World.grownBy.refl _ (some bq)) _) hqv
          have hB7 : Below w.heap.size w W7 := by rw [hW7]; exact (below_drewN HDL.out.low _).setCell hwq _
          clear hW7 d0 d1 hOQ
          have hcapM : cap ≤ maxLen := by unfold maxLen; exact hcap2
          have hcvM : cv ≤ maxLen := by unfold maxLen; exact hcv2
          have hT := take_at S HDL.out.sd g j cap V q bv 0 cv W7 hOS7 hNV7 hgv2 (by rw [HT2.out.1]; exact HDJ.out.1) (by have := HSL.out; omega) (by have := HSL.out; omega) hcapM (by rw [HT2.out.1]; exact hcv1) hcvM hq9
          rw [HT2.out.1, HSL.out] at hT
          have HT := Lib.hid hT
          have d0 : W7.cell? ⟨bq, j, none⟩ = some (.int .i64 (q : Int)) := by
            have h1 := hOQ7.cell (i := j) (by rw [List.length_set]; exact hjQ)
            rw [List.getElem_set_self] at h1
            exact h1
          have hq0 : (0 : Int) ≤ (q : Int) := by omega
          have HN7 := Lib.hid hNV7
          clear hT hcapM hcvM hOS7 hNV7
          go_wp2_with fail
          refine HT.out.mono ?_
          rintro e w8 ⟨S1, br, hbr, rfl, t1, t2, t3, t4, t5, t6, hOS8, hG8⟩
          have hOQ8 : Own w8 bq (Q.set j q) := hOQ7.keep (hG8.block bq hOQ7.lt (fun e => by cases e; omega))
          have hNV8 := N.grown HN7.out hG8 hgv2
          have hB8 : Below w.heap.size w w8 := hB7.grown hG8 hB7.size (fun k hk => by cases hk; exact hwg)
          have HTT := Lib.hid (And.intro hbr (And.intro t1 (And.intro t2 (And.intro t3 (And.intro t4 (And.intro t5 t6))))))
          have HNV8 := Lib.hid hNV8
          clear hbr t1 t2 t3 t4 t5 t6 hG8 hOQ7 hB7 HN7 d0 hNV8 HT
          by_cases hlt : val (seg S j (m + 1)) < q * V
          · rw [decide_eq_true hlt]
            have hq1 : 1 ≤ q := by
              rcases Nat.eq_zero_or_pos q with h0 | h0
              · subst h0; rw [Nat.zero_mul] at hlt; omega
              · exact h0
            have HLT := Lib.hid hlt
            clear hlt
            have e0 : w8.cell? ⟨bq, j, none⟩ = some (.int .i64 (q : Int)) := by
              have h1 := hOQ8.cell (i := j) (by rw [List.length_set]; exact hjQ)
              rw [List.getElem_set_self] at h1
              exact h1
            have e1 := hOQ8.frozen j
            go_upto_region 18 with (fail)
            obtain ⟨W9, hW9⟩ : ∃ W9, W9 = w8.setCell ⟨bq, j, none⟩ (.int .i64 ((q : Int) - 1)) := ⟨_, rfl⟩
            rw [← hW9]
            have hcast : ((q : Int) - 1) = ((q - 1 : Nat) : Int) := by omega
            rw [hcast] at hW9
            have hOQ9 : Own W9 bq (Q.set j (q - 1)) := by
              have h1 := hOQ8.set (i := j) (by rw [List.length_set]; exact hjQ) (q - 1)
              rw [List.set_set] at h1
              rw [hW9]; exact h1
            have hOS9 : Own W9 g S1 := by rw [hW9]; exact hOS8.far (p := ⟨bq, j, none⟩) (show g ≠ bq by omega) _
            have hNV9 : N W9 (.slice (some ⟨bv, 0, none⟩) (wlen V) cv) V := by
              rw [hW9]
              exact N.grown HNV8.out (only_setCell (World.grownBy.refl _ (some bq)) _) hqv
            have hB9 : Below w.heap.size w W9 := by rw [hW9]; exact hB8.setCell hwq _
            clear hW9 hcast e0 e1 hOQ8 hOS8 HNV8 hB8
            have hcapM : cap ≤ maxLen := by unfold maxLen; exact hcap2
            have hcvM : cv ≤ maxLen := by unfold maxLen; exact hcv2
            have hGv := give_at S1 HTT.out.2.2.1 g j cap V bv 0 cv W9 hOS9 hNV9 hgv2 (by rw [HT2.out.1, HTT.out.2.1]; exact HDJ.out.1) (by have := HSL.out; have := HTT.out.2.1; omega) (by have := HSL.out; have := HTT.out.2.1; omega) hcapM (by rw [HT2.out.1]; exact hcv1) hcvM
            rw [HT2.out.1, HTT.out.2.1, HSL.out] at hGv
            have HGV := Lib.hid hGv
            have HN9 := Lib.hid hNV9
            clear hGv hcapM hcvM hNV9 hOS9
            go_wp2_with fail
            refine HGV.out.mono ?_
            rintro e w10 ⟨S2, br2, hbr2, rfl, u1, u2, u3, u4, u5, hOS10, hG10⟩
            have hOQ10 : Own w10 bq (Q.set j (q - 1)) := hOQ9.keep (hG10.block bq hOQ9.lt (fun e => by cases e; omega))
            have hNV10 := N.grown HN9.out hG10 hgv2
            have hB10 : Below w.heap.size w w10 := hB9.grown hG10 hB9.size (fun k hk => by cases hk; exact hwg)
            have HNX : Hid (DL w w10 x y f m n g bq bv cv l V j S2 (Q.set j (q - 1))) := by
              have : DL w w10 x y f m n g bq bv cv l V j S2 (Q.set j (q - 1)) := by
                have hD := HDL.out
                obtain ⟨_, t1, t2, t3, t4, t5, t6⟩ := HTT.out
                have hbr1 : br = 1 := t6.2 HLT.out
                have h5 := t5
                rw [hbr1, Nat.mul_one] at h5
                have h6 := u5
                have h7 := HGU.out.1
                have h8 := seg_lt u2 j (m + 1)
                have h9 : (q - 1) * V + V = q * V := by
                  obtain ⟨q', rfl⟩ : ∃ q', q = q' + 1 := ⟨q - 1, by omega⟩
                  rw [Nat.add_sub_cancel, Nat.add_mul, Nat.one_mul]
                have hbr2 : br2 = 1 := by
                  rcases Nat.eq_zero_or_pos br2 with h0 | h0
                  · subst h0; rw [Nat.mul_zero, Nat.add_zero] at h6; omega
                  · omega
                subst hbr2
                rw [Nat.mul_one] at h6
                have hfin : val (seg S2 j (m + 1)) + (q - 1) * V = val (seg S j (m + 1)) ∧ val (seg S2 j (m + 1)) < V := by
                  have hlt := HLT.out
                  omega
                have hr := over_round (S := S) (S' := S2) (u0 := l) (Q := Q) (d := q - 1) (U := val (seg S j (m + 1))) hD.sl hjn (by rw [u1, t1]) HLN.out hjQ hD.st hD.iv (by rw [u3, t3]) (by rw [u4, t4]) HSEG.out.2.2.2 (by unfold seg; exact HSEG.out.1) hfin.1
                have hdl := digit_lt (d := q - 1) (V := V) (U := val (seg S j (m + 1))) (R := val (seg S2 j (m + 1))) (by unfold seg; rw [HSEG.out.1]; exact HSEG.out.2.1) hfin.1
                refine ⟨by rw [u1, t1]; exact hD.sl, u2, by rw [List.length_set]; exact hD.ql, hD.qd.set _ hdl, hr.1, hr.2.1, ?_, hOS10, hOQ10, ?_, hB10⟩
                · rw [hr.2.2]; exact hfin.2
                · have h := hNV10; rw [HT2.out.1] at h; exact h
              exact this
            clear hOQ10 hNV10 hB10 hOS10 hG10 u1 u2 u3 u4 u5 hbr2 hOQ9 hB9 HN9 HGV
            go_wp2
            go_roundw
            case rel => exact ⟨j, S2, _, by omega, rfl, HNX⟩
            case measure => simp [intOf] <;> omega
          · rw [decide_eq_false hlt]
            have HNX : Hid (DL w w8 x y f m n g bq bv cv l V j S1 (Q.set j q)) := by
              have : DL w w8 x y f m n g bq bv cv l V j S1 (Q.set j q) := by
                have hD := HDL.out
                obtain ⟨_, t1, t2, t3, t4, t5, t6⟩ := HTT.out
                have hbr0 : br = 0 := by
                  rcases Nat.eq_zero_or_pos br with h0 | h0
                  · exact h0
                  · exact absurd (t6.1 (by omega)) hlt
                have h5 := t5
                rw [hbr0, Nat.mul_zero, Nat.add_zero] at h5
                have h7 := HGU.out.2
                rw [Nat.add_mul, Nat.one_mul] at h7
                have hfin : val (seg S1 j (m + 1)) + q * V = val (seg S j (m + 1)) ∧ val (seg S1 j (m + 1)) < V := by omega
                have hr := over_round (S := S) (S' := S1) (u0 := l) (Q := Q) (d := q) (U := val (seg S j (m + 1))) hD.sl hjn t1 HLN.out hjQ hD.st hD.iv t3 t4 HSEG.out.2.2.2 (by unfold seg; exact HSEG.out.1) hfin.1
                have hdl := digit_lt (d := q) (V := V) (U := val (seg S j (m + 1))) (R := val (seg S1 j (m + 1))) (by unfold seg; rw [HSEG.out.1]; exact HSEG.out.2.1) hfin.1
                refine ⟨by rw [t1]; exact hD.sl, t2, by rw [List.length_set]; exact hD.ql, hD.qd.set _ hdl, hr.1, hr.2.1, ?_, hOS8, hOQ8, ?_, hB8⟩
                · rw [hr.2.2]; exact hfin.2
                · have h := HNV8.out; rw [HT2.out.1] at h; exact h
              exact this
            clear hlt hOQ8 hOS8 hB8
            go_wp2
            go_roundw
            case rel => exact ⟨j, S1, _, by omega, rfl, HNX⟩
            case measure => simp [intOf] <;> omega
theorem divide_at (x y : Nat) (v u : Value) (w : World) (hx : N w v x) (hy : N w u y) (hxl : wlen x ≤ 1000000000) (hy0 : 0 < y) : Calls Tryz.prog 112 #[v, u] w (OverPost w x y) := by
  have h0 : wlen y ≠ 0 := by have := @wlen_eq_zero y; omega
  by_cases h : x < y
  · exact divide_less x y v u w hx hy h
  · by_cases h1 : wlen y = 1
    · exact divide_one x y v u w hx hy hxl (by omega) h1
    · exact divide_many x y v u w hx hy hxl (by omega) (by omega)
end Nt
end Go.Proofs.YtemenlcigengeaaGreatDoor
namespace Go.Proofs.YtemenlcigengeaaGreatDoor
open Go.RowKit
namespace Nt
set_option maxHeartbeats 4000000 in
theorem divisor_at (x y : Nat) (v u : Value) (w : World) (hx : N w v x) (hy : N w u y) (hxl : wlen x ≤ 1000000000) (hyl : wlen y ≤ 1000000000) : Calls Tryz.prog 95 #[v, u] w (NPost w (Nat.gcd x y)) := by
  obtain ⟨a, c, rfl, s1⟩ := hx.open_
  obtain ⟨a', c', rfl, s2⟩ := hy.open_
  have HX := Lib.hid hx
  have HY := Lib.hid hy
  clear hx hy s1 s2
  go_enter Tryz.func95, Tryz.ntmps95
  go_wp2
  go_loopg [0, 1] y (fun k s0 s1 wr => ∃ p : Nat, N wr s0 p ∧ N wr s1 k ∧ wlen p ≤ 1000000000 ∧ wlen k ≤ 1000000000 ∧ Nat.gcd p k = Nat.gcd x y ∧ Below w.heap.size w wr)
  case atStart => exact ⟨x, HX.out, HY.out, hxl, hyl, rfl, Below.refl _ _⟩
  case round =>
    obtain ⟨p, hp, hk, hpl, hkl, hg, hb⟩ := hrel
    have HP := Lib.hid hp
    have HK := Lib.hid hk
    have HG := Lib.hid hg
    obtain ⟨a, c, rfl, s1⟩ := hp.open_
    obtain ⟨a', c', rfl, s2⟩ := hk.open_
    clear hp hk hg s1 s2
    by_cases h0 : 0 < gk
    · have hl : 0 < (digs gk).length := by have := @wlen_eq_zero gk; unfold wlen at this; omega
      go_wp2_with fail
      refine (divide_at p gk _ _ wr HP.out HK.out hpl h0).mono ?_
      rintro e w1 ⟨v1, v2, rfl, hq, hr, hb1⟩
      go_wp2
      go_roundg (p % gk)
      case measure => exact Nat.mod_lt _ h0
      case rel => exact ⟨gk, HK.out.ext hb1, hr, hkl, Nat.le_trans (wlen_mono (Nat.le_of_lt (Nat.mod_lt _ h0))) hkl, by rw [Nat.gcd_comm, ← Nat.gcd_rec, Nat.gcd_comm]; exact HG.out, ext_trans hb hb1⟩
    · obtain rfl : gk = 0 := by omega
      have hl : (digs 0).length = 0 := wlen_zero
      rw [hl]
      clear hl
      go_wp2
      go_ret
      exact ⟨_, rfl, by have := HG.out; rw [Nat.gcd_zero_right] at this; rw [← this]; exact HP.out, hb⟩
end Nt
end Go.Proofs.YtemenlcigengeaaGreatDoor
