/- number of the program's reader. Printed by gen_rdf.py. -/
import Derived.Test.YtbhcfmdogdaodaaGreatDoorRz07
import Derived.Test.YtbhcfmdogdaodaaGreatDoorRz10
namespace Go.Proofs.YtbhcfmdogdaodaaGreatDoor
open Go.RowKit
namespace Fd
open _root_.Go.Proofs.YtbhcfmdogdaodaaGreatDoor.Nm
open _root_.Go.Proofs.YtbhcfmdogdaodaaGreatDoor.Nt (RH RH.cell RH.box RH.lt RH.new RH.ext RH.fre RH.set RH.other)
theorem numP_neg {s : ByteArray} {a : Nat} (h : pk s a = 45) : a < s.size ∧ numP (dr s a) = (wholeP (dr s (a + 1))).bind fun n q => (fracP n q).bind fun m t => .ok (-(m : Int)) t := by
  by_cases hlt : a < s.size
  · refine ⟨hlt, ?_⟩
    rw [pk_lt hlt] at h
    have e : s[a] = 45 := UInt8.toNat_inj.1 (by show s[a].toNat = 45; omega)
    rw [dr_lt hlt, numP, if_pos e]
  · rw [pk_ge (by omega)] at h; omega
theorem numP_pos {s : ByteArray} {a : Nat} (h : pk s a ≠ 45) : numP (dr s a) = (wholeP (dr s a)).bind fun n q => (fracP n q).bind fun m t => .ok (m : Int) t := by
  by_cases hlt : a < s.size
  · rw [pk_lt hlt] at h
    rw [dr_lt hlt, numP, if_neg (fun e => h (by rw [e]; rfl))]
  · rw [dr_ge (by omega)]; rfl
theorem wholeP_zero {s : ByteArray} {a : Nat} (h : pk s a = 48) : a < s.size ∧ wholeP (dr s a) = if 48 ≤ pk s (a + 1) ∧ pk s (a + 1) ≤ 57 then .bad (dr s (a + 1)) 10 else .ok 0 (dr s (a + 1)) := by
  by_cases hlt : a < s.size
  · refine ⟨hlt, ?_⟩
    rw [pk_lt hlt] at h
    have e : s[a] = 48 := UInt8.toNat_inj.1 (by show s[a].toNat = 48; omega)
    rw [dr_lt hlt]
    simp only [wholeP]
    rw [if_pos e]
    by_cases h2 : a + 1 < s.size
    · rw [dr_lt h2]
      by_cases hd : digB s[a + 1] = true
      · rw [if_pos (pk_dig.2 ⟨h2, hd⟩)]; simp only [if_pos hd]
      · rw [if_neg (fun e => by obtain ⟨_, h3⟩ := pk_dig.1 e; exact hd h3)]; simp only [if_neg hd]
    · rw [dr_ge (by omega), if_neg (fun e => by obtain ⟨h3, _⟩ := pk_dig.1 e; omega)]
  · rw [pk_ge (by omega)] at h; omega
theorem wholeP_dig {s : ByteArray} {a : Nat} (h : pk s a ≠ 48) : wholeP (dr s a) = (digP 12 0 0 (dr s a)).bind fun v q => .ok v.1 q := by
  by_cases hlt : a < s.size
  · rw [pk_lt hlt] at h
    rw [dr_lt hlt]
    simp only [wholeP]
    rw [if_neg (fun e => h (by rw [e]; rfl))]
  · rw [dr_ge (by omega)]; rfl
theorem fracP_dot {s : ByteArray} {a n : Nat} (h : pk s a = 46) : a < s.size ∧ fracP n (dr s a) = (digP 3 0 0 (dr s (a + 1))).bind fun v q => .ok (n * 1000 + v.1 * 10 ^ (3 - v.2)) q := by
  by_cases hlt : a < s.size
  · refine ⟨hlt, ?_⟩
    rw [pk_lt hlt] at h
    have e : s[a] = 46 := UInt8.toNat_inj.1 (by show s[a].toNat = 46; omega)
    rw [dr_lt hlt, fracP, if_pos e]
  · rw [pk_ge (by omega)] at h; omega
theorem fracP_no {s : ByteArray} {a n : Nat} (h : pk s a ≠ 46) : fracP n (dr s a) = .ok (n * 1000) (dr s a) := by
  by_cases hlt : a < s.size
  · rw [pk_lt hlt] at h
    rw [dr_lt hlt, fracP, if_neg (fun e => h (by rw [e]; rfl))]
  · rw [dr_ge (by omega)]; rfl
/-- what number answers -/
def NumPost (s : ByteArray) (rb : Nat) (i : Int) (w : World) (x : Res Int) (e : Ending) (w' : World) : Prop := ∃ z : Int, i64ok z ∧ e = .returned (.agg (vAr 2 z eB (.slice none 0 0) (.slice none 0 0))) ∧ (∀ v r, x = .ok v r → v = z) ∧ AftS s rb i w w' x
theorem gr_row {w X : World} {r : Option Nat} {b : Nat} (h : w.grownBy X r) (hb : w.heap.size ≤ b) (A : Array Value) : w.grownBy (X.setRow b A) r := ⟨h.os, h.tape, h.output, by rw [setRow_size]; exact h.size, fun k hk hr => (setRow_other _ _ _ _ (by omega)).trans (h.block k hk hr)⟩
theorem RD.row {w : World} {rb at_ b : Nat} {s : ByteArray} {e i : Int} (h : RD w rb s at_ e i) (hb : rb ≠ b) (A : Array Value) : RD (w.setRow b A) rb s at_ e i := RH.row_other h hb A
theorem AftS.row {s : ByteArray} {rb b : Nat} {i : Int} {w w' : World} {α : Type} {x : Res α} (h : AftS s rb i w w' x) (hb : w.heap.size ≤ b) (hr : rb ≠ b) (A : Array Value) : AftS s rb i w (w'.setRow b A) x := by
  cases x with
  | ok v r =>
    obtain ⟨a, h1, h2, h3, h4⟩ := h
    exact ⟨a, h1, h2, h3.row hr A, gr_row h4 hb A⟩
  | bad q er =>
    obtain ⟨a, h1, h2, h3, h4⟩ := h
    exact ⟨a, h1, h2, h3.row hr A, gr_row h4 hb A⟩
theorem AftS.tr {s : ByteArray} {rb : Nat} {i : Int} {w w1 w' : World} {α : Type} {x : Res α} (h : AftS s rb i w1 w' x) (hg : w.grownBy w1 (some rb)) : AftS s rb i w w' x := by
  cases x with
  | ok v r =>
    obtain ⟨a, h1, h2, h3, h4⟩ := h
    exact ⟨a, h1, h2, h3, hg.trans h4⟩
  | bad q er =>
    obtain ⟨a, h1, h2, h3, h4⟩ := h
    exact ⟨a, h1, h2, h3, hg.trans h4⟩
/-- an error stays the error -/
theorem AftS.bad {s : ByteArray} {rb : Nat} {i : Int} {w w' : World} {α β : Type} {x : Res α} {y : Res β} (h : AftS s rb i w w' x) {q : List UInt8} {er : Int} (hx : x = .bad q er) (hy : y = .bad q er) : AftS s rb i w w' y := by
  subst hx hy; exact h
theorem aft_g {s : ByteArray} {rb : Nat} {i : Int} {w w' : World} {α : Type} {x : Res α} (h : AftS s rb i w w' x) : w.grownBy w' (some rb) := by
  cases x with
  | ok v r => obtain ⟨_, _, _, _, h4⟩ := h; exact h4
  | bad q er => obtain ⟨_, _, _, _, h4⟩ := h; exact h4
theorem aft_bad {s : ByteArray} {rb : Nat} {i : Int} {w w' : World} {α : Type} {x : Res α} {q : List UInt8} {er : Int} (h : AftS s rb i w w' x) (hx : x = .bad q er) : ∃ (e' : Int) (a : Nat), a ≤ s.size ∧ e' ≠ 0 ∧ RD w' rb s a e' ((s.size - q.length : Nat) : Int) := by
  subst hx
  obtain ⟨a, h1, h2, h3, _⟩ := h
  exact ⟨er, a, h1, h2, h3⟩
set_option maxRecDepth 100000 in
set_option maxHeartbeats 8000000 in
theorem num_at (rb : Nat) (s : ByteArray) (a : Nat) (i : Int) (w : World) (h : RD w rb s a 0 i) (hs : s.size ≤ 1000000) (ha : a ≤ s.size) : Calls Tryz.prog 22 #[.pointer (some ⟨rb, 0, none⟩)] w (NumPost s rb i w (numP (dr s a))) := by
  have hs1 : (s.size : Int) ≤ 1000000 := by omega
  have HR := Lib.hid h
  have HRB : Hid (rb < w.heap.size) := Lib.hid h.lt
  obtain ⟨x, hx⟩ : ∃ x, numP (dr s a) = x := ⟨_, rfl⟩
  have HX := Lib.hid hx
  rw [hx]
  clear h hx
  go_enter Tryz.func22, Tryz.ntmps22
  go_upto_region 1 with (fail)
  refine Tx.wp_vr1 fun W hbW hR1 => ?_
  have HT0 : Hid (RH W w.heap.size (vAr 0 0 eB (.slice none 0 0) (.slice none 0 0)) 25) := Lib.hid hR1
  have HR0 := Lib.hid (HR.out.ext hbW)
  have HG0 := Lib.hid (gr_below hbW (some rb))
  have HTB : Hid (some w.heap.size ≠ some rb) := Lib.hid (by have := HRB.out; simp; omega)
  clear hR1 hbW HR
  go_wp2_with fail
  refine (peek_q rb s a 0 i W HR0.out hs).mono ?_
  rintro e W1 ⟨rfl, hR, hg, -⟩
  have HR1 := Lib.hid hR
  have HG1 := Lib.hid (HG0.out.trans hg)
  have HT1 := Lib.hid (Rw.rh_grown HT0.out hg HTB.out)
  clear hR hg
  by_cases hm : pk s a = 45
  · have hmb : (pk s a == 45) = true := by simpa using hm
    have HNM := Lib.hid (numP_neg hm)
    have HAL : Hid (a < s.size) := Lib.hid HNM.out.1
    clear hm
    obtain ⟨c0, c1, c2, c3⟩ := HR1.out.c
    have z1 := HR1.out.z 1
    go_upto_region 5 with (fail)
    have hR : RD (W1.setCell ⟨rb, 1, none⟩ (.int .i64 ((a : Int) + 1))) rb s (a + 1) 0 i := HR1.out.next (a + 1)
    have hg := gr_set W1 rb 1 (.int .i64 ((a : Int) + 1))
    have HR2 := Lib.hid hR
    have HG2 := Lib.hid (HG1.out.trans hg)
    have HT2 := Lib.hid (Rw.rh_grown HT1.out hg HTB.out)
    clear hR hg c0 c1 c2 c3 z1
    generalize W1.setCell ⟨rb, 1, none⟩ (.int .i64 ((a : Int) + 1)) = W2 at *
    obtain ⟨c, hc⟩ : ∃ c, a + 1 = c := ⟨_, rfl⟩
    have HAQ0 : Hid (c ≤ s.size) := Lib.hid (by have := HAL.out; omega)
    have hqc : c ≤ s.size := HAQ0.out
    rw [hc] at HR2 HNM
    clear hc
    replace HX := Lib.hid (HNM.out.2.symm.trans HX.out)
    clear HNM
    go_wp2_with fail
    refine (peek_q rb s c 0 i W2 HR2.out hs).mono ?_
    rintro e Wa ⟨rfl, hR, hg, -⟩
    have HR3 := Lib.hid hR
    have HG3 := Lib.hid (HG2.out.trans hg)
    have HT3 := Lib.hid (Rw.rh_grown HT2.out hg HTB.out)
    clear hR hg
    by_cases hz : pk s c = 48
    · have hzb : (pk s c == 48) = true := by simpa using hz
      have HWZ := Lib.hid (wholeP_zero hz)
      have HAL : Hid (c < s.size) := Lib.hid HWZ.out.1
      clear hz
      obtain ⟨c0, c1, c2, c3⟩ := HR3.out.c
      have z1 := HR3.out.z 1
      go_upto_region 7 with (fail)
      have hR : RD (Wa.setCell ⟨rb, 1, none⟩ (.int .i64 ((c : Int) + 1))) rb s (c + 1) 0 i := HR3.out.next (c + 1)
      have hg := gr_set Wa rb 1 (.int .i64 ((c : Int) + 1))
      have HR4 := Lib.hid hR
      have HG4 := Lib.hid (HG3.out.trans hg)
      have HT4 := Lib.hid (Rw.rh_grown HT3.out hg HTB.out)
      clear hR hg c0 c1 c2 c3 z1
      generalize Wa.setCell ⟨rb, 1, none⟩ (.int .i64 ((c : Int) + 1)) = Wb at *
      obtain ⟨d, hd⟩ : ∃ d, c + 1 = d := ⟨_, rfl⟩
      have HAQ : Hid (d ≤ s.size) := Lib.hid (by have := HAL.out; omega)
      have hqd : d ≤ s.size := HAQ.out
      rw [hd] at HR4 HWZ
      clear hd
      go_wp2_with fail
      refine (peek_q rb s d 0 i Wb HR4.out hs).mono ?_
      rintro e Wc ⟨rfl, hR, hg, -⟩
      have HR5 := Lib.hid hR
      have HG5 := Lib.hid (HG4.out.trans hg)
      have HT5 := Lib.hid (Rw.rh_grown HT4.out hg HTB.out)
      clear hR hg
      by_cases hdg : 48 ≤ pk s d ∧ pk s d ≤ 57
      · have HXB : Hid (x = .bad (dr s d) 10) := Lib.hid (by rw [← HX.out, HWZ.out.2, if_pos hdg]; rfl)
        obtain ⟨hd1, hd2⟩ := hdg
        obtain ⟨c0, c1, c2, c3⟩ := HR5.out.c
        go_wp2_with fail
        refine (fail_ok rb s d d 10 i Wc HR5.out hs HAQ.out rfl).mono ?_
        rintro e Wd ⟨rfl, hR, hg⟩
        have HAX : Hid (AftS s rb i w Wd x) := Lib.hid (by rw [HXB.out]; exact BadS.at hR HAQ.out (HG5.out.trans hg))
        have HT8 := Lib.hid (Rw.rh_grown HT5.out hg HTB.out)
        clear hR hg c0 c1 c2 c3
        obtain ⟨er8, ab, hab, hne, hRb⟩ := aft_bad HAX.out HXB.out
        have heb : (er8 == 0) = false := by simpa using hne
        obtain ⟨c0, c1, c2, c3⟩ := hRb.c
        have HVZ : Hid (∀ v' r, x = .ok v' r → v' = 0) := Lib.hid (fun v' r e => by rw [HXB.out] at e; cases e)
        go_upto_region 19 with (fail)
        have HF : Hid (NumPost s rb i w x (.returned (.agg (vAr 2 0 eB (.slice none 0 0) (.slice none 0 0)))) (Wd.setRow w.heap.size (vAr 2 0 eB (.slice none 0 0) (.slice none 0 0)))) := Lib.hid ⟨0, by unfold i64ok; omega, rfl, HVZ.out, HAX.out.row (Nat.le_refl _) (by have := HRB.out; omega) _⟩
        go_wp2_with (refine wpList_store_row rfl _ _ _ rfl w.heap.size (vAr 2 0 eB (.slice none 0 0) (.slice none 0 0)) rfl rfl _ _ HT8.out (v_inf5 _ _ _ _ _) rfl (v_all5 _ _ _ _ _ _ _ _ _) ?_)
        (try simp only [Exit.inBlock, Exit.then])
        refine bodyPost_ret (v := .agg (vAr 2 0 eB (.slice none 0 0) (.slice none 0 0))) (results_cell_row rfl _ _ _ _ _ _ _ rfl (HT8.out.row _) Tryz.underlying25 rfl (v_inf5 _ _ _ _ _)) rfl HF.out
      · have HX2 : Hid ((fracP 0 (dr s d)).bind (fun m t => .ok (-(m : Int)) t) = x) := Lib.hid (by rw [← HX.out, HWZ.out.2, if_neg hdg]; rfl)
        have HND := Lib.hid hdg
        by_cases hd1 : 48 ≤ pk s d
        · have hd2 : ¬ pk s d ≤ 57 := fun e => hdg ⟨hd1, e⟩
          clear hdg
          clear HX
          have HX := HX2
          clear HX2
          obtain ⟨c0, c1, c2, c3⟩ := HR5.out.c
          have z1 := HR5.out.z 1
          go_wp2_with fail
          refine (peek_q rb s d 0 i Wc HR5.out hs).mono ?_
          rintro e Wf ⟨rfl, hR, hg, -⟩
          have HR6 := Lib.hid hR
          have HG6 := Lib.hid (HG5.out.trans hg)
          have HT6 := Lib.hid (Rw.rh_grown HT5.out hg HTB.out)
          clear hR hg c0 c1 c2 c3 z1
          by_cases hdot : pk s d = 46
          · have hdb : (pk s d == 46) = true := by simpa using hdot
            have HFD := Lib.hid (fracP_dot (n := 0) hdot)
            have HAL : Hid (d < s.size) := Lib.hid HFD.out.1
            clear hdot
            obtain ⟨c0, c1, c2, c3⟩ := HR6.out.c
            have z1 := HR6.out.z 1
            go_upto_region 14 with (fail)
            have hR : RD (Wf.setCell ⟨rb, 1, none⟩ (.int .i64 ((d : Int) + 1))) rb s (d + 1) 0 i := HR6.out.next (d + 1)
            have hg := gr_set Wf rb 1 (.int .i64 ((d : Int) + 1))
            have HR7 := Lib.hid hR
            have HG7 := Lib.hid (HG6.out.trans hg)
            have HT7 := Lib.hid (Rw.rh_grown HT6.out hg HTB.out)
            clear hR hg c0 c1 c2 c3 z1
            generalize Wf.setCell ⟨rb, 1, none⟩ (.int .i64 ((d : Int) + 1)) = Wg at *
            obtain ⟨b, hb⟩ : ∃ b, d + 1 = b := ⟨_, rfl⟩
            have HBL : Hid (b ≤ s.size) := Lib.hid (by have := HAL.out; omega)
            have hqb : b ≤ s.size := HBL.out
            rw [hb] at HR7 HFD
            clear hb
            obtain ⟨y, hy⟩ : ∃ y, digP 3 0 0 (dr s b) = y := ⟨_, rfl⟩
            have HY := Lib.hid hy
            clear hy
            have hDG := digits_at rb s b 3 i Wg HR7.out hs HBL.out (by decide)
            rw [HY.out] at hDG
            have HDG : Hid (Calls Tryz.prog 41 #[.pointer (some ⟨rb, 0, none⟩), .int .i64 3] Wg (DigPost 3 s rb i Wg y)) := Lib.hid hDG
            clear hDG
            go_wp2_with fail
            refine HDG.out.mono ?_
            rintro e W5 ⟨v, k, hvk, hk, rfl, hyv, hA⟩
            have HVK := Lib.hid hvk
            have HYV := Lib.hid hyv
            have HAY := Lib.hid (AftS.tr hA HG7.out)
            have HT9 := Lib.hid (Rw.rh_grown HT7.out (aft_g hA) HTB.out)
            have HKM : Hid (k ≤ 3) := Lib.hid hk
            clear hvk hyv hA hk HDG
            have hk3 : (k : Int) ≤ 3 := by have := HKM.out; omega
            go_wp2_with fail
            go_loop [7, 6] (fun p1 p2 => ∃ j z : Nat, k + j ≤ 3 ∧ p1 = .int .i64 ((k + j : Nat) : Int) ∧ p2 = .int .i64 (z : Int) ∧ Hid (z = v * 10 ^ j)) (fun p1 _ => 3 - (intOf p1).toNat)
            case atStart => exact ⟨0, v, HKM.out, rfl, rfl, Lib.hid (by simp)⟩
            case round =>
              obtain ⟨j, z, hj, rfl, rfl, HZ⟩ := hrel
              obtain ⟨kj, hkj⟩ : ∃ kj, k + j = kj := ⟨_, rfl⟩
              have HKJ := Lib.hid hkj
              rw [hkj] at hj ⊢
              clear hkj hk3
              have HZB : Hid (z < 1000) := Lib.hid (by
                rw [HZ.out]
                have h1 := HVK.out
                have h2 : v * 10 ^ j < 10 ^ k * 10 ^ j := Nat.mul_lt_mul_of_pos_right h1 (Nat.pow_pos (by decide))
                rw [← Nat.pow_add] at h2
                exact Nat.lt_of_lt_of_le h2 (Nat.pow_le_pow_right (n := 10) (i := k + j) (j := 3) (by decide) (by have := HKJ.out; omega)))
              have hz0 : (0 : Int) ≤ (z : Int) := Int.natCast_nonneg _
              have hz9 : (z : Int) < 1000 := by have := HZB.out; omega
              by_cases hlt : kj < 3
              · have hki : (kj : Int) < 3 := by omega
                have HZ2 : Hid (z * 10 = v * 10 ^ (j + 1)) := Lib.hid (by rw [HZ.out, Nat.pow_succ, Nat.mul_assoc])
                go_wp2_with fail
                go_round
                case rel => exact ⟨j + 1, z * 10, by have := HKJ.out; omega, by have := HKJ.out; go_num, by go_num, HZ2⟩
                case measure => simp [intOf]; omega
              · have hki : ¬ (kj : Int) < 3 := by omega
                have HM : Hid (∀ v' r, y = .ok v' r → 0 * 1000 + v'.1 * 10 ^ (3 - v'.2) = 0 * 1000 + z) := Lib.hid (fun v' r e => by
                  have e2 := HYV.out v' r e
                  rw [e2, HZ.out]
                  show 0 * 1000 + v * 10 ^ (3 - k) = _
                  rw [show 3 - k = j by have := HKJ.out; omega])
                have HAX : Hid (AftS s rb i w W5 x) := Lib.hid (by
                  have h9 := HAY.out
                  rw [← HX.out, HFD.out.2, HY.out]
                  cases hyy : y with
                  | bad q er => rw [hyy] at h9; exact h9
                  | ok u q => rw [hyy] at h9; exact h9)
                obtain ⟨M, hM⟩ : ∃ M : Int, (z : Int) = M := ⟨_, rfl⟩
                have HVZ : Hid (∀ v' r, x = .ok v' r → v' = -M) := Lib.hid (fun v' r e => by
                  rw [← HX.out, HFD.out.2] at e
                  cases hyy : y with
                  | bad q er => rw [HY.out, hyy] at e; cases e
                  | ok u q =>
                    rw [HY.out, hyy] at e
                    have e2 := HM.out u q hyy
                    simp only [Res.bind, Res.ok.injEq] at e
                    rw [← e.1, e2, ← hM]
                    omega)
                have HMB : Hid (0 ≤ M ∧ M < 1000000000001000) := Lib.hid (by have := HZB.out; omega)
                go_upto_region 19 with (fail)
                (try rw [hM])
                clear hM hz0 hz9
                have hm0 : 0 ≤ M := HMB.out.1
                have hm9 : M ≤ 9223372036854775807 := by have := HMB.out.2; omega
                have HF : Hid (NumPost s rb i w x (.returned (.agg (vAr 2 (-M) eB (.slice none 0 0) (.slice none 0 0)))) (W5.setRow w.heap.size (vAr 2 (-M) eB (.slice none 0 0) (.slice none 0 0)))) := Lib.hid ⟨(-M), by unfold i64ok; have := HMB.out; omega, rfl, HVZ.out, HAX.out.row (Nat.le_refl _) (by have := HRB.out; omega) _⟩
                go_wp2_with (refine wpList_store_row rfl _ _ _ rfl w.heap.size (vAr 2 (-M) eB (.slice none 0 0) (.slice none 0 0)) rfl rfl _ _ HT9.out (v_inf5 _ _ _ _ _) rfl (v_all5 _ _ _ _ _ _ _ _ _) ?_)
                (try simp only [Exit.inBlock, Exit.then])
                refine bodyPost_ret (v := .agg (vAr 2 (-M) eB (.slice none 0 0) (.slice none 0 0))) (results_cell_row rfl _ _ _ _ _ _ _ rfl (HT9.out.row _) Tryz.underlying25 rfl (v_inf5 _ _ _ _ _)) rfl HF.out
          · have hdb : (pk s d == 46) = false := by simpa using hdot
            have HVZ : Hid (∀ v' r, x = .ok v' r → v' = 0) := Lib.hid (fun v' r e => by
              rw [← HX.out, fracP_no hdot] at e
              simp only [Res.bind, Res.ok.injEq] at e
              rw [← e.1]
              omega)
            have HAX : Hid (AftS s rb i w Wf x) := Lib.hid (by
              rw [← HX.out, fracP_no hdot]
              exact ⟨d, HAQ.out, rfl, HR6.out, HG6.out⟩)
            clear hdot
            go_upto_region 19 with (fail)
            have HF : Hid (NumPost s rb i w x (.returned (.agg (vAr 2 0 eB (.slice none 0 0) (.slice none 0 0)))) (Wf.setRow w.heap.size (vAr 2 0 eB (.slice none 0 0) (.slice none 0 0)))) := Lib.hid ⟨0, by unfold i64ok; omega, rfl, HVZ.out, HAX.out.row (Nat.le_refl _) (by have := HRB.out; omega) _⟩
            go_wp2_with (refine wpList_store_row rfl _ _ _ rfl w.heap.size (vAr 2 0 eB (.slice none 0 0) (.slice none 0 0)) rfl rfl _ _ HT6.out (v_inf5 _ _ _ _ _) rfl (v_all5 _ _ _ _ _ _ _ _ _) ?_)
            (try simp only [Exit.inBlock, Exit.then])
            refine bodyPost_ret (v := .agg (vAr 2 0 eB (.slice none 0 0) (.slice none 0 0))) (results_cell_row rfl _ _ _ _ _ _ _ rfl (HT6.out.row _) Tryz.underlying25 rfl (v_inf5 _ _ _ _ _)) rfl HF.out
        · clear hdg
          clear HX
          have HX := HX2
          clear HX2
          obtain ⟨c0, c1, c2, c3⟩ := HR5.out.c
          have z1 := HR5.out.z 1
          go_wp2_with fail
          refine (peek_q rb s d 0 i Wc HR5.out hs).mono ?_
          rintro e Wf ⟨rfl, hR, hg, -⟩
          have HR6 := Lib.hid hR
          have HG6 := Lib.hid (HG5.out.trans hg)
          have HT6 := Lib.hid (Rw.rh_grown HT5.out hg HTB.out)
          clear hR hg c0 c1 c2 c3 z1
          by_cases hdot : pk s d = 46
          · have hdb : (pk s d == 46) = true := by simpa using hdot
            have HFD := Lib.hid (fracP_dot (n := 0) hdot)
            have HAL : Hid (d < s.size) := Lib.hid HFD.out.1
            clear hdot
            obtain ⟨c0, c1, c2, c3⟩ := HR6.out.c
            have z1 := HR6.out.z 1
            go_upto_region 14 with (fail)
            have hR : RD (Wf.setCell ⟨rb, 1, none⟩ (.int .i64 ((d : Int) + 1))) rb s (d + 1) 0 i := HR6.out.next (d + 1)
            have hg := gr_set Wf rb 1 (.int .i64 ((d : Int) + 1))
            have HR7 := Lib.hid hR
            have HG7 := Lib.hid (HG6.out.trans hg)
            have HT7 := Lib.hid (Rw.rh_grown HT6.out hg HTB.out)
            clear hR hg c0 c1 c2 c3 z1
            generalize Wf.setCell ⟨rb, 1, none⟩ (.int .i64 ((d : Int) + 1)) = Wg at *
            obtain ⟨b, hb⟩ : ∃ b, d + 1 = b := ⟨_, rfl⟩
            have HBL : Hid (b ≤ s.size) := Lib.hid (by have := HAL.out; omega)
            have hqb : b ≤ s.size := HBL.out
            rw [hb] at HR7 HFD
            clear hb
            obtain ⟨y, hy⟩ : ∃ y, digP 3 0 0 (dr s b) = y := ⟨_, rfl⟩
            have HY := Lib.hid hy
            clear hy
            have hDG := digits_at rb s b 3 i Wg HR7.out hs HBL.out (by decide)
            rw [HY.out] at hDG
            have HDG : Hid (Calls Tryz.prog 41 #[.pointer (some ⟨rb, 0, none⟩), .int .i64 3] Wg (DigPost 3 s rb i Wg y)) := Lib.hid hDG
            clear hDG
            go_wp2_with fail
            refine HDG.out.mono ?_
            rintro e W5 ⟨v, k, hvk, hk, rfl, hyv, hA⟩
            have HVK := Lib.hid hvk
            have HYV := Lib.hid hyv
            have HAY := Lib.hid (AftS.tr hA HG7.out)
            have HT9 := Lib.hid (Rw.rh_grown HT7.out (aft_g hA) HTB.out)
            have HKM : Hid (k ≤ 3) := Lib.hid hk
            clear hvk hyv hA hk HDG
            have hk3 : (k : Int) ≤ 3 := by have := HKM.out; omega
            go_wp2_with fail
            go_loop [7, 6] (fun p1 p2 => ∃ j z : Nat, k + j ≤ 3 ∧ p1 = .int .i64 ((k + j : Nat) : Int) ∧ p2 = .int .i64 (z : Int) ∧ Hid (z = v * 10 ^ j)) (fun p1 _ => 3 - (intOf p1).toNat)
            case atStart => exact ⟨0, v, HKM.out, rfl, rfl, Lib.hid (by simp)⟩
            case round =>
              obtain ⟨j, z, hj, rfl, rfl, HZ⟩ := hrel
              obtain ⟨kj, hkj⟩ : ∃ kj, k + j = kj := ⟨_, rfl⟩
              have HKJ := Lib.hid hkj
              rw [hkj] at hj ⊢
              clear hkj hk3
              have HZB : Hid (z < 1000) := Lib.hid (by
                rw [HZ.out]
                have h1 := HVK.out
                have h2 : v * 10 ^ j < 10 ^ k * 10 ^ j := Nat.mul_lt_mul_of_pos_right h1 (Nat.pow_pos (by decide))
                rw [← Nat.pow_add] at h2
                exact Nat.lt_of_lt_of_le h2 (Nat.pow_le_pow_right (n := 10) (i := k + j) (j := 3) (by decide) (by have := HKJ.out; omega)))
              have hz0 : (0 : Int) ≤ (z : Int) := Int.natCast_nonneg _
              have hz9 : (z : Int) < 1000 := by have := HZB.out; omega
              by_cases hlt : kj < 3
              · have hki : (kj : Int) < 3 := by omega
                have HZ2 : Hid (z * 10 = v * 10 ^ (j + 1)) := Lib.hid (by rw [HZ.out, Nat.pow_succ, Nat.mul_assoc])
                go_wp2_with fail
                go_round
                case rel => exact ⟨j + 1, z * 10, by have := HKJ.out; omega, by have := HKJ.out; go_num, by go_num, HZ2⟩
                case measure => simp [intOf]; omega
              · have hki : ¬ (kj : Int) < 3 := by omega
                have HM : Hid (∀ v' r, y = .ok v' r → 0 * 1000 + v'.1 * 10 ^ (3 - v'.2) = 0 * 1000 + z) := Lib.hid (fun v' r e => by
                  have e2 := HYV.out v' r e
                  rw [e2, HZ.out]
                  show 0 * 1000 + v * 10 ^ (3 - k) = _
                  rw [show 3 - k = j by have := HKJ.out; omega])
                have HAX : Hid (AftS s rb i w W5 x) := Lib.hid (by
                  have h9 := HAY.out
                  rw [← HX.out, HFD.out.2, HY.out]
                  cases hyy : y with
                  | bad q er => rw [hyy] at h9; exact h9
                  | ok u q => rw [hyy] at h9; exact h9)
                obtain ⟨M, hM⟩ : ∃ M : Int, (z : Int) = M := ⟨_, rfl⟩
                have HVZ : Hid (∀ v' r, x = .ok v' r → v' = -M) := Lib.hid (fun v' r e => by
                  rw [← HX.out, HFD.out.2] at e
                  cases hyy : y with
                  | bad q er => rw [HY.out, hyy] at e; cases e
                  | ok u q =>
                    rw [HY.out, hyy] at e
                    have e2 := HM.out u q hyy
                    simp only [Res.bind, Res.ok.injEq] at e
                    rw [← e.1, e2, ← hM]
                    omega)
                have HMB : Hid (0 ≤ M ∧ M < 1000000000001000) := Lib.hid (by have := HZB.out; omega)
                go_upto_region 19 with (fail)
                (try rw [hM])
                clear hM hz0 hz9
                have hm0 : 0 ≤ M := HMB.out.1
                have hm9 : M ≤ 9223372036854775807 := by have := HMB.out.2; omega
                have HF : Hid (NumPost s rb i w x (.returned (.agg (vAr 2 (-M) eB (.slice none 0 0) (.slice none 0 0)))) (W5.setRow w.heap.size (vAr 2 (-M) eB (.slice none 0 0) (.slice none 0 0)))) := Lib.hid ⟨(-M), by unfold i64ok; have := HMB.out; omega, rfl, HVZ.out, HAX.out.row (Nat.le_refl _) (by have := HRB.out; omega) _⟩
                go_wp2_with (refine wpList_store_row rfl _ _ _ rfl w.heap.size (vAr 2 (-M) eB (.slice none 0 0) (.slice none 0 0)) rfl rfl _ _ HT9.out (v_inf5 _ _ _ _ _) rfl (v_all5 _ _ _ _ _ _ _ _ _) ?_)
                (try simp only [Exit.inBlock, Exit.then])
                refine bodyPost_ret (v := .agg (vAr 2 (-M) eB (.slice none 0 0) (.slice none 0 0))) (results_cell_row rfl _ _ _ _ _ _ _ rfl (HT9.out.row _) Tryz.underlying25 rfl (v_inf5 _ _ _ _ _)) rfl HF.out
          · have hdb : (pk s d == 46) = false := by simpa using hdot
            have HVZ : Hid (∀ v' r, x = .ok v' r → v' = 0) := Lib.hid (fun v' r e => by
              rw [← HX.out, fracP_no hdot] at e
              simp only [Res.bind, Res.ok.injEq] at e
              rw [← e.1]
              omega)
            have HAX : Hid (AftS s rb i w Wf x) := Lib.hid (by
              rw [← HX.out, fracP_no hdot]
              exact ⟨d, HAQ.out, rfl, HR6.out, HG6.out⟩)
            clear hdot
            go_upto_region 19 with (fail)
            have HF : Hid (NumPost s rb i w x (.returned (.agg (vAr 2 0 eB (.slice none 0 0) (.slice none 0 0)))) (Wf.setRow w.heap.size (vAr 2 0 eB (.slice none 0 0) (.slice none 0 0)))) := Lib.hid ⟨0, by unfold i64ok; omega, rfl, HVZ.out, HAX.out.row (Nat.le_refl _) (by have := HRB.out; omega) _⟩
            go_wp2_with (refine wpList_store_row rfl _ _ _ rfl w.heap.size (vAr 2 0 eB (.slice none 0 0) (.slice none 0 0)) rfl rfl _ _ HT6.out (v_inf5 _ _ _ _ _) rfl (v_all5 _ _ _ _ _ _ _ _ _) ?_)
            (try simp only [Exit.inBlock, Exit.then])
            refine bodyPost_ret (v := .agg (vAr 2 0 eB (.slice none 0 0) (.slice none 0 0))) (results_cell_row rfl _ _ _ _ _ _ _ rfl (HT6.out.row _) Tryz.underlying25 rfl (v_inf5 _ _ _ _ _)) rfl HF.out
    · have hzb : (pk s c == 48) = false := by simpa using hz
      have HWD := Lib.hid (wholeP_dig hz)
      clear hz
      obtain ⟨y, hy⟩ : ∃ y, digP 12 0 0 (dr s c) = y := ⟨_, rfl⟩
      have HY := Lib.hid hy
      clear hy
      go_wp2_with fail
      refine (digits_at rb s c 12 i Wa HR3.out hs HAQ0.out (by decide)).mono ?_
      rw [HY.out]
      rintro e Wb ⟨n, k, hvk, hk, rfl, hyv, hA⟩
      have HNB : Hid (n < 1000000000000) := Lib.hid (Nat.lt_of_lt_of_le hvk (Nat.le_trans (Nat.pow_le_pow_right (by decide) hk) (by decide)))
      have HYV := Lib.hid hyv
      have HAY := Lib.hid (AftS.tr hA HG3.out)
      have HT9 := Lib.hid (Rw.rh_grown HT3.out (aft_g hA) HTB.out)
      clear hvk hk hyv hA
      cases hyy : y with
      | bad q er =>
        have HXB : Hid (x = .bad q er) := Lib.hid (by rw [← HX.out, HWD.out, HY.out, hyy]; rfl)
        have HAX : Hid (AftS s rb i w Wb x) := Lib.hid (by rw [HXB.out]; have h9 := HAY.out; rw [hyy] at h9; exact h9)
        clear hyy
        have hnb : (n : Int) * 1000 ≤ 9223372036854700000 := by have := HNB.out; omega
        obtain ⟨er8, ab, hab, hne, hRb⟩ := aft_bad HAX.out HXB.out
        have heb : (er8 == 0) = false := by simpa using hne
        obtain ⟨c0, c1, c2, c3⟩ := hRb.c
        obtain ⟨M, hM⟩ : ∃ M : Int, (n : Int) * 1000 = M := ⟨_, rfl⟩
        have HMB : Hid (0 ≤ M ∧ M < 1000000000001000) := Lib.hid (by have := HNB.out; omega)
        have HVZ : Hid (∀ v' r, x = .ok v' r → v' = -M) := Lib.hid (fun v' r e => by rw [HXB.out] at e; cases e)
        go_upto_region 19 with (fail)
        (try rw [hM])
        clear hM
        have hm0 : 0 ≤ M := HMB.out.1
        have hm9 : M ≤ 9223372036854775807 := by have := HMB.out.2; omega
        have HF : Hid (NumPost s rb i w x (.returned (.agg (vAr 2 (-M) eB (.slice none 0 0) (.slice none 0 0)))) (Wb.setRow w.heap.size (vAr 2 (-M) eB (.slice none 0 0) (.slice none 0 0)))) := Lib.hid ⟨(-M), by unfold i64ok; have := HMB.out; omega, rfl, HVZ.out, HAX.out.row (Nat.le_refl _) (by have := HRB.out; omega) _⟩
        go_wp2_with (refine wpList_store_row rfl _ _ _ rfl w.heap.size (vAr 2 (-M) eB (.slice none 0 0) (.slice none 0 0)) rfl rfl _ _ HT9.out (v_inf5 _ _ _ _ _) rfl (v_all5 _ _ _ _ _ _ _ _ _) ?_)
        (try simp only [Exit.inBlock, Exit.then])
        refine bodyPost_ret (v := .agg (vAr 2 (-M) eB (.slice none 0 0) (.slice none 0 0))) (results_cell_row rfl _ _ _ _ _ _ _ rfl (HT9.out.row _) Tryz.underlying25 rfl (v_inf5 _ _ _ _ _)) rfl HF.out
      | ok u q =>
        have HX2 : Hid ((fracP n q).bind (fun m t => .ok (-(m : Int)) t) = x) := Lib.hid (by
          have e2 := HYV.out u q hyy
          rw [← HX.out, HWD.out, HY.out, hyy, e2]; rfl)
        have h9 := HAY.out
        rw [hyy] at h9
        obtain ⟨d, hdl, hdq, hRd, hgd⟩ := h9
        have HAQ := Lib.hid hdl
        have HR9 := Lib.hid hRd
        have HG9 := Lib.hid hgd
        clear HX
        have HX : Hid ((fracP n (dr s d)).bind (fun m t => .ok (-(m : Int)) t) = x) := Lib.hid (by rw [hdq]; exact HX2.out)
        clear HX2 hyy hdq hRd hgd HAY
        have hnb : (n : Int) * 1000 ≤ 9223372036854700000 := by have := HNB.out; omega
        obtain ⟨c0, c1, c2, c3⟩ := HR9.out.c
        have z1 := HR9.out.z 1
        go_wp2_with fail
        refine (peek_q rb s d 0 i Wb HR9.out hs).mono ?_
        rintro e Wf ⟨rfl, hR, hg, -⟩
        have HR10 := Lib.hid hR
        have HG10 := Lib.hid (HG9.out.trans hg)
        have HT10 := Lib.hid (Rw.rh_grown HT9.out hg HTB.out)
        clear hR hg c0 c1 c2 c3 z1
        by_cases hdot : pk s d = 46
        · have hdb : (pk s d == 46) = true := by simpa using hdot
          have HFD := Lib.hid (fracP_dot (n := n) hdot)
          have HAL : Hid (d < s.size) := Lib.hid HFD.out.1
          clear hdot
          obtain ⟨c0, c1, c2, c3⟩ := HR10.out.c
          have z1 := HR10.out.z 1
          go_upto_region 14 with (fail)
          have hR : RD (Wf.setCell ⟨rb, 1, none⟩ (.int .i64 ((d : Int) + 1))) rb s (d + 1) 0 i := HR10.out.next (d + 1)
          have hg := gr_set Wf rb 1 (.int .i64 ((d : Int) + 1))
          have HR11 := Lib.hid hR
          have HG11 := Lib.hid (HG10.out.trans hg)
          have HT11 := Lib.hid (Rw.rh_grown HT10.out hg HTB.out)
          clear hR hg c0 c1 c2 c3 z1
          generalize Wf.setCell ⟨rb, 1, none⟩ (.int .i64 ((d : Int) + 1)) = Wg at *
          obtain ⟨b, hb⟩ : ∃ b, d + 1 = b := ⟨_, rfl⟩
          have HBL : Hid (b ≤ s.size) := Lib.hid (by have := HAL.out; omega)
          have hqb : b ≤ s.size := HBL.out
          rw [hb] at HR11 HFD
          clear hb
          obtain ⟨y, hy⟩ : ∃ y, digP 3 0 0 (dr s b) = y := ⟨_, rfl⟩
          have HY := Lib.hid hy
          clear hy
          have hDG := digits_at rb s b 3 i Wg HR11.out hs HBL.out (by decide)
          rw [HY.out] at hDG
          have HDG : Hid (Calls Tryz.prog 41 #[.pointer (some ⟨rb, 0, none⟩), .int .i64 3] Wg (DigPost 3 s rb i Wg y)) := Lib.hid hDG
          clear hDG
          go_wp2_with fail
          refine HDG.out.mono ?_
          rintro e W5 ⟨v, k, hvk, hk, rfl, hyv, hA⟩
          have HVK := Lib.hid hvk
          have HYV := Lib.hid hyv
          have HAY := Lib.hid (AftS.tr hA HG11.out)
          have HT9 := Lib.hid (Rw.rh_grown HT11.out (aft_g hA) HTB.out)
          have HKM : Hid (k ≤ 3) := Lib.hid hk
          clear hvk hyv hA hk HDG
          have hk3 : (k : Int) ≤ 3 := by have := HKM.out; omega
          go_wp2_with fail
          go_loop [7, 6] (fun p1 p2 => ∃ j z : Nat, k + j ≤ 3 ∧ p1 = .int .i64 ((k + j : Nat) : Int) ∧ p2 = .int .i64 (z : Int) ∧ Hid (z = v * 10 ^ j)) (fun p1 _ => 3 - (intOf p1).toNat)
          case atStart => exact ⟨0, v, HKM.out, rfl, rfl, Lib.hid (by simp)⟩
          case round =>
            obtain ⟨j, z, hj, rfl, rfl, HZ⟩ := hrel
            obtain ⟨kj, hkj⟩ : ∃ kj, k + j = kj := ⟨_, rfl⟩
            have HKJ := Lib.hid hkj
            rw [hkj] at hj ⊢
            clear hkj hk3
            have HZB : Hid (z < 1000) := Lib.hid (by
              rw [HZ.out]
              have h1 := HVK.out
              have h2 : v * 10 ^ j < 10 ^ k * 10 ^ j := Nat.mul_lt_mul_of_pos_right h1 (Nat.pow_pos (by decide))
              rw [← Nat.pow_add] at h2
              exact Nat.lt_of_lt_of_le h2 (Nat.pow_le_pow_right (n := 10) (i := k + j) (j := 3) (by decide) (by have := HKJ.out; omega)))
            have hz0 : (0 : Int) ≤ (z : Int) := Int.natCast_nonneg _
            have hz9 : (z : Int) < 1000 := by have := HZB.out; omega
            by_cases hlt : kj < 3
            · have hki : (kj : Int) < 3 := by omega
              have HZ2 : Hid (z * 10 = v * 10 ^ (j + 1)) := Lib.hid (by rw [HZ.out, Nat.pow_succ, Nat.mul_assoc])
              go_wp2_with fail
              go_round
              case rel => exact ⟨j + 1, z * 10, by have := HKJ.out; omega, by have := HKJ.out; go_num, by go_num, HZ2⟩
              case measure => simp [intOf]; omega
            · have hki : ¬ (kj : Int) < 3 := by omega
              have HM : Hid (∀ v' r, y = .ok v' r → n * 1000 + v'.1 * 10 ^ (3 - v'.2) = n * 1000 + z) := Lib.hid (fun v' r e => by
                have e2 := HYV.out v' r e
                rw [e2, HZ.out]
                show n * 1000 + v * 10 ^ (3 - k) = _
                rw [show 3 - k = j by have := HKJ.out; omega])
              have HAX : Hid (AftS s rb i w W5 x) := Lib.hid (by
                have h9 := HAY.out
                rw [← HX.out, HFD.out.2, HY.out]
                cases hyy : y with
                | bad q er => rw [hyy] at h9; exact h9
                | ok u q => rw [hyy] at h9; exact h9)
              obtain ⟨M, hM⟩ : ∃ M : Int, (n : Int) * 1000 + (z : Int) = M := ⟨_, rfl⟩
              have HVZ : Hid (∀ v' r, x = .ok v' r → v' = -M) := Lib.hid (fun v' r e => by
                rw [← HX.out, HFD.out.2] at e
                cases hyy : y with
                | bad q er => rw [HY.out, hyy] at e; cases e
                | ok u q =>
                  rw [HY.out, hyy] at e
                  have e2 := HM.out u q hyy
                  simp only [Res.bind, Res.ok.injEq] at e
                  rw [← e.1, e2, ← hM]
                  omega)
              have HMB : Hid (0 ≤ M ∧ M < 1000000000001000) := Lib.hid (by have := HZB.out; have := HNB.out; omega)
              go_upto_region 19 with (fail)
              (try rw [hM])
              clear hM hz0 hz9
              have hm0 : 0 ≤ M := HMB.out.1
              have hm9 : M ≤ 9223372036854775807 := by have := HMB.out.2; omega
              have HF : Hid (NumPost s rb i w x (.returned (.agg (vAr 2 (-M) eB (.slice none 0 0) (.slice none 0 0)))) (W5.setRow w.heap.size (vAr 2 (-M) eB (.slice none 0 0) (.slice none 0 0)))) := Lib.hid ⟨(-M), by unfold i64ok; have := HMB.out; omega, rfl, HVZ.out, HAX.out.row (Nat.le_refl _) (by have := HRB.out; omega) _⟩
              go_wp2_with (refine wpList_store_row rfl _ _ _ rfl w.heap.size (vAr 2 (-M) eB (.slice none 0 0) (.slice none 0 0)) rfl rfl _ _ HT9.out (v_inf5 _ _ _ _ _) rfl (v_all5 _ _ _ _ _ _ _ _ _) ?_)
              (try simp only [Exit.inBlock, Exit.then])
              refine bodyPost_ret (v := .agg (vAr 2 (-M) eB (.slice none 0 0) (.slice none 0 0))) (results_cell_row rfl _ _ _ _ _ _ _ rfl (HT9.out.row _) Tryz.underlying25 rfl (v_inf5 _ _ _ _ _)) rfl HF.out
        · have hdb : (pk s d == 46) = false := by simpa using hdot
          obtain ⟨M, hM⟩ : ∃ M : Int, (n : Int) * 1000 = M := ⟨_, rfl⟩
          have HMB : Hid (0 ≤ M ∧ M < 1000000000001000) := Lib.hid (by have := HNB.out; omega)
          have HVZ : Hid (∀ v' r, x = .ok v' r → v' = -M) := Lib.hid (fun v' r e => by
            rw [← HX.out, fracP_no hdot] at e
            simp only [Res.bind, Res.ok.injEq] at e
            rw [← e.1, ← hM]
            omega)
          have HAX : Hid (AftS s rb i w Wf x) := Lib.hid (by
            rw [← HX.out, fracP_no hdot]
            exact ⟨d, HAQ.out, rfl, HR10.out, HG10.out⟩)
          clear hdot
          go_upto_region 19 with (fail)
          (try rw [hM])
          clear hM
          have hm0 : 0 ≤ M := HMB.out.1
          have hm9 : M ≤ 9223372036854775807 := by have := HMB.out.2; omega
          have HF : Hid (NumPost s rb i w x (.returned (.agg (vAr 2 (-M) eB (.slice none 0 0) (.slice none 0 0)))) (Wf.setRow w.heap.size (vAr 2 (-M) eB (.slice none 0 0) (.slice none 0 0)))) := Lib.hid ⟨(-M), by unfold i64ok; have := HMB.out; omega, rfl, HVZ.out, HAX.out.row (Nat.le_refl _) (by have := HRB.out; omega) _⟩
          go_wp2_with (refine wpList_store_row rfl _ _ _ rfl w.heap.size (vAr 2 (-M) eB (.slice none 0 0) (.slice none 0 0)) rfl rfl _ _ HT10.out (v_inf5 _ _ _ _ _) rfl (v_all5 _ _ _ _ _ _ _ _ _) ?_)
          (try simp only [Exit.inBlock, Exit.then])
          refine bodyPost_ret (v := .agg (vAr 2 (-M) eB (.slice none 0 0) (.slice none 0 0))) (results_cell_row rfl _ _ _ _ _ _ _ rfl (HT10.out.row _) Tryz.underlying25 rfl (v_inf5 _ _ _ _ _)) rfl HF.out
  · have hmb : (pk s a == 45) = false := by simpa using hm
    have HAQ0 : Hid (a ≤ s.size) := Lib.hid ha
    replace HX := Lib.hid ((numP_pos hm).symm.trans HX.out)
    clear hm
    go_wp2_with fail
    refine (peek_q rb s a 0 i W1 HR1.out hs).mono ?_
    rintro e Wa ⟨rfl, hR, hg, -⟩
    have HR2 := Lib.hid hR
    have HG2 := Lib.hid (HG1.out.trans hg)
    have HT2 := Lib.hid (Rw.rh_grown HT1.out hg HTB.out)
    clear hR hg
    by_cases hz : pk s a = 48
    · have hzb : (pk s a == 48) = true := by simpa using hz
      have HWZ := Lib.hid (wholeP_zero hz)
      have HAL : Hid (a < s.size) := Lib.hid HWZ.out.1
      clear hz
      obtain ⟨c0, c1, c2, c3⟩ := HR2.out.c
      have z1 := HR2.out.z 1
      go_upto_region 7 with (fail)
      have hR : RD (Wa.setCell ⟨rb, 1, none⟩ (.int .i64 ((a : Int) + 1))) rb s (a + 1) 0 i := HR2.out.next (a + 1)
      have hg := gr_set Wa rb 1 (.int .i64 ((a : Int) + 1))
      have HR3 := Lib.hid hR
      have HG3 := Lib.hid (HG2.out.trans hg)
      have HT3 := Lib.hid (Rw.rh_grown HT2.out hg HTB.out)
      clear hR hg c0 c1 c2 c3 z1
      generalize Wa.setCell ⟨rb, 1, none⟩ (.int .i64 ((a : Int) + 1)) = Wb at *
      obtain ⟨d, hd⟩ : ∃ d, a + 1 = d := ⟨_, rfl⟩
      have HAQ : Hid (d ≤ s.size) := Lib.hid (by have := HAL.out; omega)
      have hqd : d ≤ s.size := HAQ.out
      rw [hd] at HR3 HWZ
      clear hd
      go_wp2_with fail
      refine (peek_q rb s d 0 i Wb HR3.out hs).mono ?_
      rintro e Wc ⟨rfl, hR, hg, -⟩
      have HR4 := Lib.hid hR
      have HG4 := Lib.hid (HG3.out.trans hg)
      have HT4 := Lib.hid (Rw.rh_grown HT3.out hg HTB.out)
      clear hR hg
      by_cases hdg : 48 ≤ pk s d ∧ pk s d ≤ 57
      · have HXB : Hid (x = .bad (dr s d) 10) := Lib.hid (by rw [← HX.out, HWZ.out.2, if_pos hdg]; rfl)
        obtain ⟨hd1, hd2⟩ := hdg
        obtain ⟨c0, c1, c2, c3⟩ := HR4.out.c
        go_wp2_with fail
        refine (fail_ok rb s d d 10 i Wc HR4.out hs HAQ.out rfl).mono ?_
        rintro e Wd ⟨rfl, hR, hg⟩
        have HAX : Hid (AftS s rb i w Wd x) := Lib.hid (by rw [HXB.out]; exact BadS.at hR HAQ.out (HG4.out.trans hg))
        have HT8 := Lib.hid (Rw.rh_grown HT4.out hg HTB.out)
        clear hR hg c0 c1 c2 c3
        obtain ⟨er8, ab, hab, hne, hRb⟩ := aft_bad HAX.out HXB.out
        have heb : (er8 == 0) = false := by simpa using hne
        obtain ⟨c0, c1, c2, c3⟩ := hRb.c
        have HVZ : Hid (∀ v' r, x = .ok v' r → v' = 0) := Lib.hid (fun v' r e => by rw [HXB.out] at e; cases e)
        go_upto_region 19 with (fail)
        have HF : Hid (NumPost s rb i w x (.returned (.agg (vAr 2 0 eB (.slice none 0 0) (.slice none 0 0)))) (Wd.setRow w.heap.size (vAr 2 0 eB (.slice none 0 0) (.slice none 0 0)))) := Lib.hid ⟨0, by unfold i64ok; omega, rfl, HVZ.out, HAX.out.row (Nat.le_refl _) (by have := HRB.out; omega) _⟩
        go_wp2_with (refine wpList_store_row rfl _ _ _ rfl w.heap.size (vAr 2 0 eB (.slice none 0 0) (.slice none 0 0)) rfl rfl _ _ HT8.out (v_inf5 _ _ _ _ _) rfl (v_all5 _ _ _ _ _ _ _ _ _) ?_)
        (try simp only [Exit.inBlock, Exit.then])
        refine bodyPost_ret (v := .agg (vAr 2 0 eB (.slice none 0 0) (.slice none 0 0))) (results_cell_row rfl _ _ _ _ _ _ _ rfl (HT8.out.row _) Tryz.underlying25 rfl (v_inf5 _ _ _ _ _)) rfl HF.out
      · have HX2 : Hid ((fracP 0 (dr s d)).bind (fun m t => .ok ((m : Int)) t) = x) := Lib.hid (by rw [← HX.out, HWZ.out.2, if_neg hdg]; rfl)
        have HND := Lib.hid hdg
        by_cases hd1 : 48 ≤ pk s d
        · have hd2 : ¬ pk s d ≤ 57 := fun e => hdg ⟨hd1, e⟩
          clear hdg
          clear HX
          have HX := HX2
          clear HX2
          obtain ⟨c0, c1, c2, c3⟩ := HR4.out.c
          have z1 := HR4.out.z 1
          go_wp2_with fail
          refine (peek_q rb s d 0 i Wc HR4.out hs).mono ?_
          rintro e Wf ⟨rfl, hR, hg, -⟩
          have HR5 := Lib.hid hR
          have HG5 := Lib.hid (HG4.out.trans hg)
          have HT5 := Lib.hid (Rw.rh_grown HT4.out hg HTB.out)
          clear hR hg c0 c1 c2 c3 z1
          by_cases hdot : pk s d = 46
          · have hdb : (pk s d == 46) = true := by simpa using hdot
            have HFD := Lib.hid (fracP_dot (n := 0) hdot)
            have HAL : Hid (d < s.size) := Lib.hid HFD.out.1
            clear hdot
            obtain ⟨c0, c1, c2, c3⟩ := HR5.out.c
            have z1 := HR5.out.z 1
            go_upto_region 14 with (fail)
            have hR : RD (Wf.setCell ⟨rb, 1, none⟩ (.int .i64 ((d : Int) + 1))) rb s (d + 1) 0 i := HR5.out.next (d + 1)
            have hg := gr_set Wf rb 1 (.int .i64 ((d : Int) + 1))
            have HR6 := Lib.hid hR
            have HG6 := Lib.hid (HG5.out.trans hg)
            have HT6 := Lib.hid (Rw.rh_grown HT5.out hg HTB.out)
            clear hR hg c0 c1 c2 c3 z1
            generalize Wf.setCell ⟨rb, 1, none⟩ (.int .i64 ((d : Int) + 1)) = Wg at *
            obtain ⟨b, hb⟩ : ∃ b, d + 1 = b := ⟨_, rfl⟩
            have HBL : Hid (b ≤ s.size) := Lib.hid (by have := HAL.out; omega)
            have hqb : b ≤ s.size := HBL.out
            rw [hb] at HR6 HFD
            clear hb
            obtain ⟨y, hy⟩ : ∃ y, digP 3 0 0 (dr s b) = y := ⟨_, rfl⟩
            have HY := Lib.hid hy
            clear hy
            have hDG := digits_at rb s b 3 i Wg HR6.out hs HBL.out (by decide)
            rw [HY.out] at hDG
            have HDG : Hid (Calls Tryz.prog 41 #[.pointer (some ⟨rb, 0, none⟩), .int .i64 3] Wg (DigPost 3 s rb i Wg y)) := Lib.hid hDG
            clear hDG
            go_wp2_with fail
            refine HDG.out.mono ?_
            rintro e W5 ⟨v, k, hvk, hk, rfl, hyv, hA⟩
            have HVK := Lib.hid hvk
            have HYV := Lib.hid hyv
            have HAY := Lib.hid (AftS.tr hA HG6.out)
            have HT9 := Lib.hid (Rw.rh_grown HT6.out (aft_g hA) HTB.out)
            have HKM : Hid (k ≤ 3) := Lib.hid hk
            clear hvk hyv hA hk HDG
            have hk3 : (k : Int) ≤ 3 := by have := HKM.out; omega
            go_wp2_with fail
            go_loop [7, 6] (fun p1 p2 => ∃ j z : Nat, k + j ≤ 3 ∧ p1 = .int .i64 ((k + j : Nat) : Int) ∧ p2 = .int .i64 (z : Int) ∧ Hid (z = v * 10 ^ j)) (fun p1 _ => 3 - (intOf p1).toNat)
            case atStart => exact ⟨0, v, HKM.out, rfl, rfl, Lib.hid (by simp)⟩
            case round =>
              obtain ⟨j, z, hj, rfl, rfl, HZ⟩ := hrel
              obtain ⟨kj, hkj⟩ : ∃ kj, k + j = kj := ⟨_, rfl⟩
              have HKJ := Lib.hid hkj
              rw [hkj] at hj ⊢
              clear hkj hk3
              have HZB : Hid (z < 1000) := Lib.hid (by
                rw [HZ.out]
                have h1 := HVK.out
                have h2 : v * 10 ^ j < 10 ^ k * 10 ^ j := Nat.mul_lt_mul_of_pos_right h1 (Nat.pow_pos (by decide))
                rw [← Nat.pow_add] at h2
                exact Nat.lt_of_lt_of_le h2 (Nat.pow_le_pow_right (n := 10) (i := k + j) (j := 3) (by decide) (by have := HKJ.out; omega)))
              have hz0 : (0 : Int) ≤ (z : Int) := Int.natCast_nonneg _
              have hz9 : (z : Int) < 1000 := by have := HZB.out; omega
              by_cases hlt : kj < 3
              · have hki : (kj : Int) < 3 := by omega
                have HZ2 : Hid (z * 10 = v * 10 ^ (j + 1)) := Lib.hid (by rw [HZ.out, Nat.pow_succ, Nat.mul_assoc])
                go_wp2_with fail
                go_round
                case rel => exact ⟨j + 1, z * 10, by have := HKJ.out; omega, by have := HKJ.out; go_num, by go_num, HZ2⟩
                case measure => simp [intOf]; omega
              · have hki : ¬ (kj : Int) < 3 := by omega
                have HM : Hid (∀ v' r, y = .ok v' r → 0 * 1000 + v'.1 * 10 ^ (3 - v'.2) = 0 * 1000 + z) := Lib.hid (fun v' r e => by
                  have e2 := HYV.out v' r e
                  rw [e2, HZ.out]
                  show 0 * 1000 + v * 10 ^ (3 - k) = _
                  rw [show 3 - k = j by have := HKJ.out; omega])
                have HAX : Hid (AftS s rb i w W5 x) := Lib.hid (by
                  have h9 := HAY.out
                  rw [← HX.out, HFD.out.2, HY.out]
                  cases hyy : y with
                  | bad q er => rw [hyy] at h9; exact h9
                  | ok u q => rw [hyy] at h9; exact h9)
                obtain ⟨M, hM⟩ : ∃ M : Int, (z : Int) = M := ⟨_, rfl⟩
                have HVZ : Hid (∀ v' r, x = .ok v' r → v' = M) := Lib.hid (fun v' r e => by
                  rw [← HX.out, HFD.out.2] at e
                  cases hyy : y with
                  | bad q er => rw [HY.out, hyy] at e; cases e
                  | ok u q =>
                    rw [HY.out, hyy] at e
                    have e2 := HM.out u q hyy
                    simp only [Res.bind, Res.ok.injEq] at e
                    rw [← e.1, e2, ← hM]
                    omega)
                have HMB : Hid (0 ≤ M ∧ M < 1000000000001000) := Lib.hid (by have := HZB.out; omega)
                go_upto_region 19 with (fail)
                (try rw [hM])
                clear hM hz0 hz9
                have hm0 : 0 ≤ M := HMB.out.1
                have hm9 : M ≤ 9223372036854775807 := by have := HMB.out.2; omega
                have HF : Hid (NumPost s rb i w x (.returned (.agg (vAr 2 M eB (.slice none 0 0) (.slice none 0 0)))) (W5.setRow w.heap.size (vAr 2 M eB (.slice none 0 0) (.slice none 0 0)))) := Lib.hid ⟨M, by unfold i64ok; have := HMB.out; omega, rfl, HVZ.out, HAX.out.row (Nat.le_refl _) (by have := HRB.out; omega) _⟩
                go_wp2_with (refine wpList_store_row rfl _ _ _ rfl w.heap.size (vAr 2 M eB (.slice none 0 0) (.slice none 0 0)) rfl rfl _ _ HT9.out (v_inf5 _ _ _ _ _) rfl (v_all5 _ _ _ _ _ _ _ _ _) ?_)
                (try simp only [Exit.inBlock, Exit.then])
                refine bodyPost_ret (v := .agg (vAr 2 M eB (.slice none 0 0) (.slice none 0 0))) (results_cell_row rfl _ _ _ _ _ _ _ rfl (HT9.out.row _) Tryz.underlying25 rfl (v_inf5 _ _ _ _ _)) rfl HF.out
          · have hdb : (pk s d == 46) = false := by simpa using hdot
            have HVZ : Hid (∀ v' r, x = .ok v' r → v' = 0) := Lib.hid (fun v' r e => by
              rw [← HX.out, fracP_no hdot] at e
              simp only [Res.bind, Res.ok.injEq] at e
              rw [← e.1]
              omega)
            have HAX : Hid (AftS s rb i w Wf x) := Lib.hid (by
              rw [← HX.out, fracP_no hdot]
              exact ⟨d, HAQ.out, rfl, HR5.out, HG5.out⟩)
            clear hdot
            go_upto_region 19 with (fail)
            have HF : Hid (NumPost s rb i w x (.returned (.agg (vAr 2 0 eB (.slice none 0 0) (.slice none 0 0)))) (Wf.setRow w.heap.size (vAr 2 0 eB (.slice none 0 0) (.slice none 0 0)))) := Lib.hid ⟨0, by unfold i64ok; omega, rfl, HVZ.out, HAX.out.row (Nat.le_refl _) (by have := HRB.out; omega) _⟩
            go_wp2_with (refine wpList_store_row rfl _ _ _ rfl w.heap.size (vAr 2 0 eB (.slice none 0 0) (.slice none 0 0)) rfl rfl _ _ HT5.out (v_inf5 _ _ _ _ _) rfl (v_all5 _ _ _ _ _ _ _ _ _) ?_)
            (try simp only [Exit.inBlock, Exit.then])
            refine bodyPost_ret (v := .agg (vAr 2 0 eB (.slice none 0 0) (.slice none 0 0))) (results_cell_row rfl _ _ _ _ _ _ _ rfl (HT5.out.row _) Tryz.underlying25 rfl (v_inf5 _ _ _ _ _)) rfl HF.out
        · clear hdg
          clear HX
          have HX := HX2
          clear HX2
          obtain ⟨c0, c1, c2, c3⟩ := HR4.out.c
          have z1 := HR4.out.z 1
          go_wp2_with fail
          refine (peek_q rb s d 0 i Wc HR4.out hs).mono ?_
          rintro e Wf ⟨rfl, hR, hg, -⟩
          have HR5 := Lib.hid hR
          have HG5 := Lib.hid (HG4.out.trans hg)
          have HT5 := Lib.hid (Rw.rh_grown HT4.out hg HTB.out)
          clear hR hg c0 c1 c2 c3 z1
          by_cases hdot : pk s d = 46
          · have hdb : (pk s d == 46) = true := by simpa using hdot
            have HFD := Lib.hid (fracP_dot (n := 0) hdot)
            have HAL : Hid (d < s.size) := Lib.hid HFD.out.1
            clear hdot
            obtain ⟨c0, c1, c2, c3⟩ := HR5.out.c
            have z1 := HR5.out.z 1
            go_upto_region 14 with (fail)
            have hR : RD (Wf.setCell ⟨rb, 1, none⟩ (.int .i64 ((d : Int) + 1))) rb s (d + 1) 0 i := HR5.out.next (d + 1)
            have hg := gr_set Wf rb 1 (.int .i64 ((d : Int) + 1))
            have HR6 := Lib.hid hR
            have HG6 := Lib.hid (HG5.out.trans hg)
            have HT6 := Lib.hid (Rw.rh_grown HT5.out hg HTB.out)
            clear hR hg c0 c1 c2 c3 z1
            generalize Wf.setCell ⟨rb, 1, none⟩ (.int .i64 ((d : Int) + 1)) = Wg at *
            obtain ⟨b, hb⟩ : ∃ b, d + 1 = b := ⟨_, rfl⟩
            have HBL : Hid (b ≤ s.size) := Lib.hid (by have := HAL.out; omega)
            have hqb : b ≤ s.size := HBL.out
            rw [hb] at HR6 HFD
            clear hb
            obtain ⟨y, hy⟩ : ∃ y, digP 3 0 0 (dr s b) = y := ⟨_, rfl⟩
            have HY := Lib.hid hy
            clear hy
            have hDG := digits_at rb s b 3 i Wg HR6.out hs HBL.out (by decide)
            rw [HY.out] at hDG
            have HDG : Hid (Calls Tryz.prog 41 #[.pointer (some ⟨rb, 0, none⟩), .int .i64 3] Wg (DigPost 3 s rb i Wg y)) := Lib.hid hDG
            clear hDG
            go_wp2_with fail
            refine HDG.out.mono ?_
            rintro e W5 ⟨v, k, hvk, hk, rfl, hyv, hA⟩
            have HVK := Lib.hid hvk
            have HYV := Lib.hid hyv
            have HAY := Lib.hid (AftS.tr hA HG6.out)
            have HT9 := Lib.hid (Rw.rh_grown HT6.out (aft_g hA) HTB.out)
            have HKM : Hid (k ≤ 3) := Lib.hid hk
            clear hvk hyv hA hk HDG
            have hk3 : (k : Int) ≤ 3 := by have := HKM.out; omega
            go_wp2_with fail
            go_loop [7, 6] (fun p1 p2 => ∃ j z : Nat, k + j ≤ 3 ∧ p1 = .int .i64 ((k + j : Nat) : Int) ∧ p2 = .int .i64 (z : Int) ∧ Hid (z = v * 10 ^ j)) (fun p1 _ => 3 - (intOf p1).toNat)
            case atStart => exact ⟨0, v, HKM.out, rfl, rfl, Lib.hid (by simp)⟩
            case round =>
              obtain ⟨j, z, hj, rfl, rfl, HZ⟩ := hrel
              obtain ⟨kj, hkj⟩ : ∃ kj, k + j = kj := ⟨_, rfl⟩
              have HKJ := Lib.hid hkj
              rw [hkj] at hj ⊢
              clear hkj hk3
              have HZB : Hid (z < 1000) := Lib.hid (by
                rw [HZ.out]
                have h1 := HVK.out
                have h2 : v * 10 ^ j < 10 ^ k * 10 ^ j := Nat.mul_lt_mul_of_pos_right h1 (Nat.pow_pos (by decide))
                rw [← Nat.pow_add] at h2
                exact Nat.lt_of_lt_of_le h2 (Nat.pow_le_pow_right (n := 10) (i := k + j) (j := 3) (by decide) (by have := HKJ.out; omega)))
              have hz0 : (0 : Int) ≤ (z : Int) := Int.natCast_nonneg _
              have hz9 : (z : Int) < 1000 := by have := HZB.out; omega
              by_cases hlt : kj < 3
              · have hki : (kj : Int) < 3 := by omega
                have HZ2 : Hid (z * 10 = v * 10 ^ (j + 1)) := Lib.hid (by rw [HZ.out, Nat.pow_succ, Nat.mul_assoc])
                go_wp2_with fail
                go_round
                case rel => exact ⟨j + 1, z * 10, by have := HKJ.out; omega, by have := HKJ.out; go_num, by go_num, HZ2⟩
                case measure => simp [intOf]; omega
              · have hki : ¬ (kj : Int) < 3 := by omega
                have HM : Hid (∀ v' r, y = .ok v' r → 0 * 1000 + v'.1 * 10 ^ (3 - v'.2) = 0 * 1000 + z) := Lib.hid (fun v' r e => by
                  have e2 := HYV.out v' r e
                  rw [e2, HZ.out]
                  show 0 * 1000 + v * 10 ^ (3 - k) = _
                  rw [show 3 - k = j by have := HKJ.out; omega])
                have HAX : Hid (AftS s rb i w W5 x) := Lib.hid (by
                  have h9 := HAY.out
                  rw [← HX.out, HFD.out.2, HY.out]
                  cases hyy : y with
                  | bad q er => rw [hyy] at h9; exact h9
                  | ok u q => rw [hyy] at h9; exact h9)
                obtain ⟨M, hM⟩ : ∃ M : Int, (z : Int) = M := ⟨_, rfl⟩
                have HVZ : Hid (∀ v' r, x = .ok v' r → v' = M) := Lib.hid (fun v' r e => by
                  rw [← HX.out, HFD.out.2] at e
                  cases hyy : y with
                  | bad q er => rw [HY.out, hyy] at e; cases e
                  | ok u q =>
                    rw [HY.out, hyy] at e
                    have e2 := HM.out u q hyy
                    simp only [Res.bind, Res.ok.injEq] at e
                    rw [← e.1, e2, ← hM]
                    omega)
                have HMB : Hid (0 ≤ M ∧ M < 1000000000001000) := Lib.hid (by have := HZB.out; omega)
                go_upto_region 19 with (fail)
                (try rw [hM])
                clear hM hz0 hz9
                have hm0 : 0 ≤ M := HMB.out.1
                have hm9 : M ≤ 9223372036854775807 := by have := HMB.out.2; omega
                have HF : Hid (NumPost s rb i w x (.returned (.agg (vAr 2 M eB (.slice none 0 0) (.slice none 0 0)))) (W5.setRow w.heap.size (vAr 2 M eB (.slice none 0 0) (.slice none 0 0)))) := Lib.hid ⟨M, by unfold i64ok; have := HMB.out; omega, rfl, HVZ.out, HAX.out.row (Nat.le_refl _) (by have := HRB.out; omega) _⟩
                go_wp2_with (refine wpList_store_row rfl _ _ _ rfl w.heap.size (vAr 2 M eB (.slice none 0 0) (.slice none 0 0)) rfl rfl _ _ HT9.out (v_inf5 _ _ _ _ _) rfl (v_all5 _ _ _ _ _ _ _ _ _) ?_)
                (try simp only [Exit.inBlock, Exit.then])
                refine bodyPost_ret (v := .agg (vAr 2 M eB (.slice none 0 0) (.slice none 0 0))) (results_cell_row rfl _ _ _ _ _ _ _ rfl (HT9.out.row _) Tryz.underlying25 rfl (v_inf5 _ _ _ _ _)) rfl HF.out
          · have hdb : (pk s d == 46) = false := by simpa using hdot
            have HVZ : Hid (∀ v' r, x = .ok v' r → v' = 0) := Lib.hid (fun v' r e => by
              rw [← HX.out, fracP_no hdot] at e
              simp only [Res.bind, Res.ok.injEq] at e
              rw [← e.1]
              omega)
            have HAX : Hid (AftS s rb i w Wf x) := Lib.hid (by
              rw [← HX.out, fracP_no hdot]
              exact ⟨d, HAQ.out, rfl, HR5.out, HG5.out⟩)
            clear hdot
            go_upto_region 19 with (fail)
            have HF : Hid (NumPost s rb i w x (.returned (.agg (vAr 2 0 eB (.slice none 0 0) (.slice none 0 0)))) (Wf.setRow w.heap.size (vAr 2 0 eB (.slice none 0 0) (.slice none 0 0)))) := Lib.hid ⟨0, by unfold i64ok; omega, rfl, HVZ.out, HAX.out.row (Nat.le_refl _) (by have := HRB.out; omega) _⟩
            go_wp2_with (refine wpList_store_row rfl _ _ _ rfl w.heap.size (vAr 2 0 eB (.slice none 0 0) (.slice none 0 0)) rfl rfl _ _ HT5.out (v_inf5 _ _ _ _ _) rfl (v_all5 _ _ _ _ _ _ _ _ _) ?_)
            (try simp only [Exit.inBlock, Exit.then])
            refine bodyPost_ret (v := .agg (vAr 2 0 eB (.slice none 0 0) (.slice none 0 0))) (results_cell_row rfl _ _ _ _ _ _ _ rfl (HT5.out.row _) Tryz.underlying25 rfl (v_inf5 _ _ _ _ _)) rfl HF.out
    · have hzb : (pk s a == 48) = false := by simpa using hz
      have HWD := Lib.hid (wholeP_dig hz)
      clear hz
      obtain ⟨y, hy⟩ : ∃ y, digP 12 0 0 (dr s a) = y := ⟨_, rfl⟩
      have HY := Lib.hid hy
      clear hy
      go_wp2_with fail
      refine (digits_at rb s a 12 i Wa HR2.out hs HAQ0.out (by decide)).mono ?_
      rw [HY.out]
      rintro e Wb ⟨n, k, hvk, hk, rfl, hyv, hA⟩
      have HNB : Hid (n < 1000000000000) := Lib.hid (Nat.lt_of_lt_of_le hvk (Nat.le_trans (Nat.pow_le_pow_right (by decide) hk) (by decide)))
      have HYV := Lib.hid hyv
      have HAY := Lib.hid (AftS.tr hA HG2.out)
      have HT9 := Lib.hid (Rw.rh_grown HT2.out (aft_g hA) HTB.out)
      clear hvk hk hyv hA
      cases hyy : y with
      | bad q er =>
        have HXB : Hid (x = .bad q er) := Lib.hid (by rw [← HX.out, HWD.out, HY.out, hyy]; rfl)
        have HAX : Hid (AftS s rb i w Wb x) := Lib.hid (by rw [HXB.out]; have h9 := HAY.out; rw [hyy] at h9; exact h9)
        clear hyy
        have hnb : (n : Int) * 1000 ≤ 9223372036854700000 := by have := HNB.out; omega
        obtain ⟨er8, ab, hab, hne, hRb⟩ := aft_bad HAX.out HXB.out
        have heb : (er8 == 0) = false := by simpa using hne
        obtain ⟨c0, c1, c2, c3⟩ := hRb.c
        obtain ⟨M, hM⟩ : ∃ M : Int, (n : Int) * 1000 = M := ⟨_, rfl⟩
        have HMB : Hid (0 ≤ M ∧ M < 1000000000001000) := Lib.hid (by have := HNB.out; omega)
        have HVZ : Hid (∀ v' r, x = .ok v' r → v' = M) := Lib.hid (fun v' r e => by rw [HXB.out] at e; cases e)
        go_upto_region 19 with (fail)
        (try rw [hM])
        clear hM
        have hm0 : 0 ≤ M := HMB.out.1
        have hm9 : M ≤ 9223372036854775807 := by have := HMB.out.2; omega
        have HF : Hid (NumPost s rb i w x (.returned (.agg (vAr 2 M eB (.slice none 0 0) (.slice none 0 0)))) (Wb.setRow w.heap.size (vAr 2 M eB (.slice none 0 0) (.slice none 0 0)))) := Lib.hid ⟨M, by unfold i64ok; have := HMB.out; omega, rfl, HVZ.out, HAX.out.row (Nat.le_refl _) (by have := HRB.out; omega) _⟩
        go_wp2_with (refine wpList_store_row rfl _ _ _ rfl w.heap.size (vAr 2 M eB (.slice none 0 0) (.slice none 0 0)) rfl rfl _ _ HT9.out (v_inf5 _ _ _ _ _) rfl (v_all5 _ _ _ _ _ _ _ _ _) ?_)
        (try simp only [Exit.inBlock, Exit.then])
        refine bodyPost_ret (v := .agg (vAr 2 M eB (.slice none 0 0) (.slice none 0 0))) (results_cell_row rfl _ _ _ _ _ _ _ rfl (HT9.out.row _) Tryz.underlying25 rfl (v_inf5 _ _ _ _ _)) rfl HF.out
      | ok u q =>
        have HX2 : Hid ((fracP n q).bind (fun m t => .ok ((m : Int)) t) = x) := Lib.hid (by
          have e2 := HYV.out u q hyy
          rw [← HX.out, HWD.out, HY.out, hyy, e2]; rfl)
        have h9 := HAY.out
        rw [hyy] at h9
        obtain ⟨d, hdl, hdq, hRd, hgd⟩ := h9
        have HAQ := Lib.hid hdl
        have HR9 := Lib.hid hRd
        have HG9 := Lib.hid hgd
        clear HX
        have HX : Hid ((fracP n (dr s d)).bind (fun m t => .ok ((m : Int)) t) = x) := Lib.hid (by rw [hdq]; exact HX2.out)
        clear HX2 hyy hdq hRd hgd HAY
        have hnb : (n : Int) * 1000 ≤ 9223372036854700000 := by have := HNB.out; omega
        obtain ⟨c0, c1, c2, c3⟩ := HR9.out.c
        have z1 := HR9.out.z 1
        go_wp2_with fail
        refine (peek_q rb s d 0 i Wb HR9.out hs).mono ?_
        rintro e Wf ⟨rfl, hR, hg, -⟩
        have HR10 := Lib.hid hR
        have HG10 := Lib.hid (HG9.out.trans hg)
        have HT10 := Lib.hid (Rw.rh_grown HT9.out hg HTB.out)
        clear hR hg c0 c1 c2 c3 z1
        by_cases hdot : pk s d = 46
        · have hdb : (pk s d == 46) = true := by simpa using hdot
          have HFD := Lib.hid (fracP_dot (n := n) hdot)
          have HAL : Hid (d < s.size) := Lib.hid HFD.out.1
          clear hdot
          obtain ⟨c0, c1, c2, c3⟩ := HR10.out.c
          have z1 := HR10.out.z 1
          go_upto_region 14 with (fail)
          have hR : RD (Wf.setCell ⟨rb, 1, none⟩ (.int .i64 ((d : Int) + 1))) rb s (d + 1) 0 i := HR10.out.next (d + 1)
          have hg := gr_set Wf rb 1 (.int .i64 ((d : Int) + 1))
          have HR11 := Lib.hid hR
          have HG11 := Lib.hid (HG10.out.trans hg)
          have HT11 := Lib.hid (Rw.rh_grown HT10.out hg HTB.out)
          clear hR hg c0 c1 c2 c3 z1
          generalize Wf.setCell ⟨rb, 1, none⟩ (.int .i64 ((d : Int) + 1)) = Wg at *
          obtain ⟨b, hb⟩ : ∃ b, d + 1 = b := ⟨_, rfl⟩
          have HBL : Hid (b ≤ s.size) := Lib.hid (by have := HAL.out; omega)
          have hqb : b ≤ s.size := HBL.out
          rw [hb] at HR11 HFD
          clear hb
          obtain ⟨y, hy⟩ : ∃ y, digP 3 0 0 (dr s b) = y := ⟨_, rfl⟩
          have HY := Lib.hid hy
          clear hy
          have hDG := digits_at rb s b 3 i Wg HR11.out hs HBL.out (by decide)
          rw [HY.out] at hDG
          have HDG : Hid (Calls Tryz.prog 41 #[.pointer (some ⟨rb, 0, none⟩), .int .i64 3] Wg (DigPost 3 s rb i Wg y)) := Lib.hid hDG
          clear hDG
          go_wp2_with fail
          refine HDG.out.mono ?_
          rintro e W5 ⟨v, k, hvk, hk, rfl, hyv, hA⟩
          have HVK := Lib.hid hvk
          have HYV := Lib.hid hyv
          have HAY := Lib.hid (AftS.tr hA HG11.out)
          have HT9 := Lib.hid (Rw.rh_grown HT11.out (aft_g hA) HTB.out)
          have HKM : Hid (k ≤ 3) := Lib.hid hk
          clear hvk hyv hA hk HDG
          have hk3 : (k : Int) ≤ 3 := by have := HKM.out; omega
          go_wp2_with fail
          go_loop [7, 6] (fun p1 p2 => ∃ j z : Nat, k + j ≤ 3 ∧ p1 = .int .i64 ((k + j : Nat) : Int) ∧ p2 = .int .i64 (z : Int) ∧ Hid (z = v * 10 ^ j)) (fun p1 _ => 3 - (intOf p1).toNat)
          case atStart => exact ⟨0, v, HKM.out, rfl, rfl, Lib.hid (by simp)⟩
          case round =>
            obtain ⟨j, z, hj, rfl, rfl, HZ⟩ := hrel
            obtain ⟨kj, hkj⟩ : ∃ kj, k + j = kj := ⟨_, rfl⟩
            have HKJ := Lib.hid hkj
            rw [hkj] at hj ⊢
            clear hkj hk3
            have HZB : Hid (z < 1000) := Lib.hid (by
              rw [HZ.out]
              have h1 := HVK.out
              have h2 : v * 10 ^ j < 10 ^ k * 10 ^ j := Nat.mul_lt_mul_of_pos_right h1 (Nat.pow_pos (by decide))
              rw [← Nat.pow_add] at h2
              exact Nat.lt_of_lt_of_le h2 (Nat.pow_le_pow_right (n := 10) (i := k + j) (j := 3) (by decide) (by have := HKJ.out; omega)))
            have hz0 : (0 : Int) ≤ (z : Int) := Int.natCast_nonneg _
            have hz9 : (z : Int) < 1000 := by have := HZB.out; omega
            by_cases hlt : kj < 3
            · have hki : (kj : Int) < 3 := by omega
              have HZ2 : Hid (z * 10 = v * 10 ^ (j + 1)) := Lib.hid (by rw [HZ.out, Nat.pow_succ, Nat.mul_assoc])
              go_wp2_with fail
              go_round
              case rel => exact ⟨j + 1, z * 10, by have := HKJ.out; omega, by have := HKJ.out; go_num, by go_num, HZ2⟩
              case measure => simp [intOf]; omega
            · have hki : ¬ (kj : Int) < 3 := by omega
              have HM : Hid (∀ v' r, y = .ok v' r → n * 1000 + v'.1 * 10 ^ (3 - v'.2) = n * 1000 + z) := Lib.hid (fun v' r e => by
                have e2 := HYV.out v' r e
                rw [e2, HZ.out]
                show n * 1000 + v * 10 ^ (3 - k) = _
                rw [show 3 - k = j by have := HKJ.out; omega])
              have HAX : Hid (AftS s rb i w W5 x) := Lib.hid (by
                have h9 := HAY.out
                rw [← HX.out, HFD.out.2, HY.out]
                cases hyy : y with
                | bad q er => rw [hyy] at h9; exact h9
                | ok u q => rw [hyy] at h9; exact h9)
              obtain ⟨M, hM⟩ : ∃ M : Int, (n : Int) * 1000 + (z : Int) = M := ⟨_, rfl⟩
              have HVZ : Hid (∀ v' r, x = .ok v' r → v' = M) := Lib.hid (fun v' r e => by
                rw [← HX.out, HFD.out.2] at e
                cases hyy : y with
                | bad q er => rw [HY.out, hyy] at e; cases e
                | ok u q =>
                  rw [HY.out, hyy] at e
                  have e2 := HM.out u q hyy
                  simp only [Res.bind, Res.ok.injEq] at e
                  rw [← e.1, e2, ← hM]
                  omega)
              have HMB : Hid (0 ≤ M ∧ M < 1000000000001000) := Lib.hid (by have := HZB.out; have := HNB.out; omega)
              go_upto_region 19 with (fail)
              (try rw [hM])
              clear hM hz0 hz9
              have hm0 : 0 ≤ M := HMB.out.1
              have hm9 : M ≤ 9223372036854775807 := by have := HMB.out.2; omega
              have HF : Hid (NumPost s rb i w x (.returned (.agg (vAr 2 M eB (.slice none 0 0) (.slice none 0 0)))) (W5.setRow w.heap.size (vAr 2 M eB (.slice none 0 0) (.slice none 0 0)))) := Lib.hid ⟨M, by unfold i64ok; have := HMB.out; omega, rfl, HVZ.out, HAX.out.row (Nat.le_refl _) (by have := HRB.out; omega) _⟩
              go_wp2_with (refine wpList_store_row rfl _ _ _ rfl w.heap.size (vAr 2 M eB (.slice none 0 0) (.slice none 0 0)) rfl rfl _ _ HT9.out (v_inf5 _ _ _ _ _) rfl (v_all5 _ _ _ _ _ _ _ _ _) ?_)
              (try simp only [Exit.inBlock, Exit.then])
              refine bodyPost_ret (v := .agg (vAr 2 M eB (.slice none 0 0) (.slice none 0 0))) (results_cell_row rfl _ _ _ _ _ _ _ rfl (HT9.out.row _) Tryz.underlying25 rfl (v_inf5 _ _ _ _ _)) rfl HF.out
        · have hdb : (pk s d == 46) = false := by simpa using hdot
          obtain ⟨M, hM⟩ : ∃ M : Int, (n : Int) * 1000 = M := ⟨_, rfl⟩
          have HMB : Hid (0 ≤ M ∧ M < 1000000000001000) := Lib.hid (by have := HNB.out; omega)
          have HVZ : Hid (∀ v' r, x = .ok v' r → v' = M) := Lib.hid (fun v' r e => by
            rw [← HX.out, fracP_no hdot] at e
            simp only [Res.bind, Res.ok.injEq] at e
            rw [← e.1, ← hM]
            omega)
          have HAX : Hid (AftS s rb i w Wf x) := Lib.hid (by
            rw [← HX.out, fracP_no hdot]
            exact ⟨d, HAQ.out, rfl, HR10.out, HG10.out⟩)
          clear hdot
          go_upto_region 19 with (fail)
          (try rw [hM])
          clear hM
          have hm0 : 0 ≤ M := HMB.out.1
          have hm9 : M ≤ 9223372036854775807 := by have := HMB.out.2; omega
          have HF : Hid (NumPost s rb i w x (.returned (.agg (vAr 2 M eB (.slice none 0 0) (.slice none 0 0)))) (Wf.setRow w.heap.size (vAr 2 M eB (.slice none 0 0) (.slice none 0 0)))) := Lib.hid ⟨M, by unfold i64ok; have := HMB.out; omega, rfl, HVZ.out, HAX.out.row (Nat.le_refl _) (by have := HRB.out; omega) _⟩
          go_wp2_with (refine wpList_store_row rfl _ _ _ rfl w.heap.size (vAr 2 M eB (.slice none 0 0) (.slice none 0 0)) rfl rfl _ _ HT10.out (v_inf5 _ _ _ _ _) rfl (v_all5 _ _ _ _ _ _ _ _ _) ?_)
          (try simp only [Exit.inBlock, Exit.then])
          refine bodyPost_ret (v := .agg (vAr 2 M eB (.slice none 0 0) (.slice none 0 0))) (results_cell_row rfl _ _ _ _ _ _ _ rfl (HT10.out.row _) Tryz.underlying25 rfl (v_inf5 _ _ _ _ _)) rfl HF.out
end Fd
end Go.Proofs.YtbhcfmdogdaodaaGreatDoor
