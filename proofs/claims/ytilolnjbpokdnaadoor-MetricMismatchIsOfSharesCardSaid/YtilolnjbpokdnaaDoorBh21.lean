/- Mismatch of the program. Printed by gen_mis.py. -/
import Derived.Test.YtilolnjbpokdnaaDoorBh20
import Derived.Test.YtilolnjbpokdnaaDoorBh19
namespace Go.Proofs.YtilolnjbpokdnaaDoor
open Go.RowKit
namespace Nm
theorem ic_at {w : World} {a : Option Addr} {c k : Nat} {l : List Int} (h : Sl w (.slice a l.length c) l.length (l.map (Value.int .i64))) (hk : k < l.length) : ∃ b o, a = some ⟨b, o, none⟩ ∧ w.cell? ⟨b, o + k, none⟩ = some (.int .i64 l[k]) :=
 sl_addr h (by simp [hk])
set_option maxRecDepth 100000 in
set_option maxHeartbeats 16000000 in
theorem mism_at (cs xs : List Int) (a b : Option Addr) (c d : Nat) (w : World) (hs : Sl w (.slice a cs.length c) cs.length (cs.map (Value.int .i64))) (hs2 : Sl w (.slice b xs.length d) xs.length (xs.map (Value.int .i64))) : Calls Tryd.prog 4 #[.slice a cs.length c, .slice b xs.length d] w (AnsPost w (misN cs xs) (misD cs xs) (misF cs xs)) := by
 have HS := Lib.hid hs
 have HS2 := Lib.hid hs2
 clear hs hs2
 go_enter Tryd.func4, Tryd.ntmps4
 go_upto_region 1 with (fail)
 refine wp_box1r fun w1' hsz hbW hC hF => ?_
 clear hsz
 have HB_o := Lib.hid hC
 have HF_o := Lib.hid hF
 have HW := Lib.hid hbW
 clear hbW hC hF
 by_cases h1 : cs.length = 0
 ·have HV : Hid (misF cs xs = 9) := Lib.hid (by unfold misF; rw [if_pos h1])
  have hl0 : (cs.length : Int) = 0 := by omega
  clear h1
  have c_o_0 : w1'.cell? ⟨w.heap.size, 0, none⟩ = some (.string ⟨#[]⟩) := HB_o.out.2 0
  have c_o_1 : w1'.cell? ⟨w.heap.size, 1, none⟩ = some (.string ⟨#[]⟩) := HB_o.out.2 1
  have f_o_0 := HF_o.out 0
  have f_o_1 := HF_o.out 1
  have HN := Lib.hid (mis_no (cs := cs) (xs := xs) (by rw [HV.out]; decide))
  have HR := Lib.hid (Nt.res2s (.string ⟨#[]⟩) (.string ⟨#[]⟩) HB_o.out HW.out (show w.heap.size ≤ w.heap.size by omega))
  obtain ⟨hbF, z0, z1⟩ := id HR.out
  clear hbF
  go_wp2
  exact bodyPost_ret (v := .tuple #[.agg #[.string ⟨#[]⟩, .string ⟨#[]⟩], .int .i64 9]) (by simp [results, Tryd.results4, go_sem, z0, z1]) rfl ⟨by rw [HN.out.1, HN.out.2, HV.out], HR.out.1⟩
 ·by_cases h2 : 20 < cs.length
  ·have HV : Hid (misF cs xs = 2) := Lib.hid (by unfold misF; rw [if_neg h1, if_pos h2])
   have hl0 : ¬ (cs.length : Int) = 0 := by omega
   have hl1 : (20 : Int) < (cs.length : Int) := by omega
   clear h1 h2
   have c_o_0 : w1'.cell? ⟨w.heap.size, 0, none⟩ = some (.string ⟨#[]⟩) := HB_o.out.2 0
   have c_o_1 : w1'.cell? ⟨w.heap.size, 1, none⟩ = some (.string ⟨#[]⟩) := HB_o.out.2 1
   have f_o_0 := HF_o.out 0
   have f_o_1 := HF_o.out 1
   have HN := Lib.hid (mis_no (cs := cs) (xs := xs) (by rw [HV.out]; decide))
   have HR := Lib.hid (Nt.res2s (.string ⟨#[]⟩) (.string ⟨#[]⟩) HB_o.out HW.out (show w.heap.size ≤ w.heap.size by omega))
   obtain ⟨hbF, z0, z1⟩ := id HR.out
   clear hbF
   go_wp2
   exact bodyPost_ret (v := .tuple #[.agg #[.string ⟨#[]⟩, .string ⟨#[]⟩], .int .i64 2]) (by simp [results, Tryd.results4, go_sem, z0, z1]) rfl ⟨by rw [HN.out.1, HN.out.2, HV.out], HR.out.1⟩
  ·by_cases h3 : cs.length ≠ xs.length
   ·have HV : Hid (misF cs xs = 3) := Lib.hid (by unfold misF; rw [if_neg h1, if_neg h2, if_pos h3])
    have hl0 : ¬ (cs.length : Int) = 0 := by omega
    have hl1 : ¬ (20 : Int) < (cs.length : Int) := by omega
    have hneg : ((cs.length : Int) != (xs.length : Int)) = true := by rw [bne_iff_ne]; omega
    clear h1 h2 h3
    have c_o_0 : w1'.cell? ⟨w.heap.size, 0, none⟩ = some (.string ⟨#[]⟩) := HB_o.out.2 0
    have c_o_1 : w1'.cell? ⟨w.heap.size, 1, none⟩ = some (.string ⟨#[]⟩) := HB_o.out.2 1
    have f_o_0 := HF_o.out 0
    have f_o_1 := HF_o.out 1
    have HN := Lib.hid (mis_no (cs := cs) (xs := xs) (by rw [HV.out]; decide))
    have HR := Lib.hid (Nt.res2s (.string ⟨#[]⟩) (.string ⟨#[]⟩) HB_o.out HW.out (show w.heap.size ≤ w.heap.size by omega))
    obtain ⟨hbF, z0, z1⟩ := id HR.out
    clear hbF
    go_wp2
    exact bodyPost_ret (v := .tuple #[.agg #[.string ⟨#[]⟩, .string ⟨#[]⟩], .int .i64 3]) (by simp [results, Tryd.results4, go_sem, z0, z1]) rfl ⟨by rw [HN.out.1, HN.out.2, HV.out], HR.out.1⟩
   ·replace h3 : cs.length = xs.length := by omega
    have HF : Hid (misF cs xs = if badF cs xs = true then 1 else if sumI cs = 0 then 14 else 0) := Lib.hid (by unfold misF; rw [if_neg h1, if_neg h2, if_neg (fun h => h h3)])
    have HLX := Lib.hid h3
    have h1' : 0 < cs.length := by omega
    have h2' : cs.length ≤ 20 := by omega
    have hl0 : ¬ (cs.length : Int) = 0 := by omega
    have hl1 : ¬ (20 : Int) < (cs.length : Int) := by omega
    have hneg : ((cs.length : Int) != (xs.length : Int)) = false := by rw [bne_eq_false_iff_eq]; omega
    obtain ⟨pb, po, rfl, hq8⟩ := ic_at HS.out h1'
    obtain ⟨qb, qo, rfl, hq9⟩ := ic_at (k := 0) HS2.out (by omega)
    clear hq8 hq9 h1 h2 h3
    go_wp2
    clear hl0 hl1 hneg
    go_loopw [6, 7, 8, 9, 34] (fun n' x' _ _ i wr => ∃ (k : Nat) (sn sw : Int), k ≤ cs.length ∧ i = .int .i64 (k : Int) ∧ n' = .int .i64 sn ∧ x' = .int .i64 sw ∧ Hid (sn + sumI (cs.drop k) = sumI cs ∧ sw + sumI (xs.drop k) = sumI xs ∧ badF cs xs = badF (cs.drop k) (xs.drop k)) ∧ (0 ≤ sn ∧ sn ≤ 20000 * (k : Int) ∧ 0 ≤ sw ∧ sw ≤ 100000 * (k : Int)) ∧ (Box wr w.heap.size #[.string ⟨#[]⟩, .string ⟨#[]⟩]) ∧ (Fre wr w.heap.size) ∧ (Below w.heap.size w wr)) (fun _ _ _ _ i _ => cs.length - (intOf i).toNat)
    case atStart => exact ⟨0, 0, 0, by omega, rfl, rfl, rfl, Lib.hid ⟨by simp, by simp, rfl⟩, by omega, HB_o.out, HF_o.out, HW.out⟩
    case round =>
     obtain ⟨k, sn, sw, hk, rfl, rfl, rfl, HK, hbd, q_HB_o, q_HF_o, q_HW⟩ := hrel
     clear HB_o HF_o HW
     have HB_o := Lib.hid q_HB_o
     have HF_o := Lib.hid q_HF_o
     have HW := Lib.hid q_HW
     clear q_HB_o q_HF_o q_HW
     generalize hX : wr = X at *
     clear hX
     obtain ⟨hb1, hb2, hb3, hb4⟩ := hbd
     by_cases hlt : k < cs.length
     ·have hlt2 : k < xs.length := by rw [← HLX.out]; exact hlt
      have HST := Lib.hid (badF_step hlt hlt2)
      have HSN := Lib.hid (sumI_step hlt)
      have HSW := Lib.hid (sumI_step hlt2)
      have e0 : X.cell? ⟨pb, po + k, none⟩ = some (.int .i64 cs[k]) := by obtain ⟨_, _, e, h⟩ := ic_at (HS.out.ext HW.out) hlt; cases e; exact h
      have e1 : X.cell? ⟨qb, qo + k, none⟩ = some (.int .i64 xs[k]) := by obtain ⟨_, _, e, h⟩ := ic_at (HS2.out.ext HW.out) hlt2; cases e; exact h
      generalize cs[k] = ck at HST HSN e0
      generalize xs[k] = xk at HST HSW e1
      have hk0 : (0 : Int) ≤ (k : Int) := Int.natCast_nonneg _
      have hk1 : (k : Int) < (cs.length : Int) := by omega
      have hk2 : (k : Int) < (xs.length : Int) := by omega
      have hk3 : (k : Int).toNat = k := by omega
      by_cases hc : 0 ≤ ck ∧ ck ≤ 20000
      ·by_cases hx : 1 ≤ xk ∧ xk ≤ 100000
       ·have HN : Hid ((sn + ck) + sumI (cs.drop (k + 1)) = sumI cs ∧ (sw + xk) + sumI (xs.drop (k + 1)) = sumI xs ∧ badF cs xs = badF (cs.drop (k + 1)) (xs.drop (k + 1))) := Lib.hid ⟨by have h1 := HK.out.1; have h2 := HSN.out; omega, by have h1 := HK.out.2.1; have h2 := HSW.out; omega, by rw [HK.out.2.2, HST.out, if_pos (by rw [okC_iff]; omega)]⟩
        clear HK HST HSN HSW
        obtain ⟨hc1, hc2⟩ := hc
        obtain ⟨hx1, hx2⟩ := hx
        go_wp2_with fail
        refine (mwithin_yes _ _ _ hc1 hc2 X).mono ?_
        rintro e w' ⟨rfl, rfl⟩
        go_wp2_with fail
        refine (mwithin_yes _ _ _ hx1 hx2 X).mono ?_
        rintro e w' ⟨rfl, rfl⟩
        go_wp2
        go_quiet (fail)
        go_wp2
        go_roundw
        case rel => exact ⟨k + 1, sn + ck, sw + xk, by omega, by go_num, by go_num, by go_num, HN, by omega, HB_o.out, HF_o.out, ⟨HW.out.1, HW.out.2, HW.out.3, HW.out.4, HW.out.5⟩⟩
        case measure => simp [intOf]; omega
       ·have HV : Hid (misF cs xs = 1) := Lib.hid (by rw [HF.out, if_pos (by rw [HK.out.2.2, HST.out, if_neg (by rw [okC_iff]; omega)])])
        go_wp2_with fail
        refine (mwithin_yes _ _ _ hc.1 hc.2 X).mono ?_
        rintro e w' ⟨rfl, rfl⟩
        go_wp2_with fail
        refine (mwithin_no _ _ _ (by omega) X).mono ?_
        rintro e w' ⟨rfl, rfl⟩
        clear e0 e1 hc hx HST HSN HSW HK
        have c_o_0 : X.cell? ⟨w.heap.size, 0, none⟩ = some (.string ⟨#[]⟩) := HB_o.out.2 0
        have c_o_1 : X.cell? ⟨w.heap.size, 1, none⟩ = some (.string ⟨#[]⟩) := HB_o.out.2 1
        have f_o_0 := HF_o.out 0
        have f_o_1 := HF_o.out 1
        have HN := Lib.hid (mis_no (cs := cs) (xs := xs) (by rw [HV.out]; decide))
        have HR := Lib.hid (Nt.res2s (.string ⟨#[]⟩) (.string ⟨#[]⟩) HB_o.out HW.out (show w.heap.size ≤ w.heap.size by omega))
        obtain ⟨hbF, z0, z1⟩ := id HR.out
        clear hbF
        go_wp2
        exact bodyPost_ret (v := .tuple #[.agg #[.string ⟨#[]⟩, .string ⟨#[]⟩], .int .i64 1]) (by simp [results, Tryd.results4, go_sem, z0, z1]) rfl ⟨by rw [HN.out.1, HN.out.2, HV.out], HR.out.1⟩
      ·have HV : Hid (misF cs xs = 1) := Lib.hid (by rw [HF.out, if_pos (by rw [HK.out.2.2, HST.out, if_neg (by rw [okC_iff]; omega)])])
       go_wp2_with fail
       refine (mwithin_no _ _ _ (by omega) X).mono ?_
       rintro e w' ⟨rfl, rfl⟩
       clear e0 e1 hc HST HSN HSW HK
       have c_o_0 : X.cell? ⟨w.heap.size, 0, none⟩ = some (.string ⟨#[]⟩) := HB_o.out.2 0
       have c_o_1 : X.cell? ⟨w.heap.size, 1, none⟩ = some (.string ⟨#[]⟩) := HB_o.out.2 1
       have f_o_0 := HF_o.out 0
       have f_o_1 := HF_o.out 1
       have HN := Lib.hid (mis_no (cs := cs) (xs := xs) (by rw [HV.out]; decide))
       have HR := Lib.hid (Nt.res2s (.string ⟨#[]⟩) (.string ⟨#[]⟩) HB_o.out HW.out (show w.heap.size ≤ w.heap.size by omega))
       obtain ⟨hbF, z0, z1⟩ := id HR.out
       clear hbF
       go_wp2
       exact bodyPost_ret (v := .tuple #[.agg #[.string ⟨#[]⟩, .string ⟨#[]⟩], .int .i64 1]) (by simp [results, Tryd.results4, go_sem, z0, z1]) rfl ⟨by rw [HN.out.1, HN.out.2, HV.out], HR.out.1⟩
     ·have HNB : Hid (badF cs xs = false ∧ sumI cs = sn ∧ sumI xs = sw) := Lib.hid (by have h1 := HK.out; have h2 := HLX.out; rw [List.drop_of_length_le (show cs.length ≤ k by omega), List.drop_of_length_le (show xs.length ≤ k by omega)] at h1; simp only [sumI] at h1; exact ⟨h1.2.2, by omega, by omega⟩)
      have HF2 : Hid (misF cs xs = if sn = 0 then 14 else 0) := Lib.hid (by rw [HF.out, if_neg (by rw [HNB.out.1]; decide), HNB.out.2.1])
      clear HK HF hb4
      by_cases hs0 : sn = 0
      ·have HV : Hid (misF cs xs = 14) := Lib.hid (by rw [HF2.out, if_pos hs0])
       subst hs0
       clear hb1 hb2 hb3
       have c_o_0 : X.cell? ⟨w.heap.size, 0, none⟩ = some (.string ⟨#[]⟩) := HB_o.out.2 0
       have c_o_1 : X.cell? ⟨w.heap.size, 1, none⟩ = some (.string ⟨#[]⟩) := HB_o.out.2 1
       have f_o_0 := HF_o.out 0
       have f_o_1 := HF_o.out 1
       have HN := Lib.hid (mis_no (cs := cs) (xs := xs) (by rw [HV.out]; decide))
       have HR := Lib.hid (Nt.res2s (.string ⟨#[]⟩) (.string ⟨#[]⟩) HB_o.out HW.out (show w.heap.size ≤ w.heap.size by omega))
       obtain ⟨hbF, z0, z1⟩ := id HR.out
       clear hbF
       go_wp2
       exact bodyPost_ret (v := .tuple #[.agg #[.string ⟨#[]⟩, .string ⟨#[]⟩], .int .i64 14]) (by simp [results, Tryd.results4, go_sem, z0, z1]) rfl ⟨by rw [HN.out.1, HN.out.2, HV.out], HR.out.1⟩
      ·have HV0 : Hid (misF cs xs = 0) := Lib.hid (by rw [HF2.out, if_neg hs0])
       obtain ⟨n, rfl⟩ : ∃ n : Nat, sn = (n : Int) := ⟨sn.toNat, by omega⟩
       obtain ⟨wt, rfl⟩ : ∃ n : Nat, sw = (n : Int) := ⟨sw.toNat, by omega⟩
       have HALL : Hid (MsAll cs xs n wt) := Lib.hid (by have h := ms_all HV0.out; rw [HNB.out.2.1, HNB.out.2.2, Int.toNat_natCast, Int.toNat_natCast] at h; exact h)
       have HMQ : Hid (misQ cs xs = misL n wt 0 (prs (cs.drop 0) (xs.drop 0))) := Lib.hid (by rw [misQ_is, HNB.out.2.1, HNB.out.2.2, Int.toNat_natCast, Int.toNat_natCast])
       have hn0 : n ≤ 400000 := HALL.out.n1
       have hw0 : wt ≤ 2000000 := HALL.out.w1
       have hw1 : 0 < wt := HALL.out.w0
       have hsn : ¬ (n : Int) = 0 := hs0
       clear HF2 HNB hs0 hb1 hb2 hb3
       obtain ⟨zq, hzq⟩ : ∃ q : Rat, q = 0 := ⟨_, rfl⟩
       have HZ : Hid (MsOk 0 zq ∧ misL n wt zq (prs (cs.drop 0) (xs.drop 0)) = misQ cs xs) := Lib.hid (by rw [hzq]; exact ⟨MsOk.zero, HMQ.out.symm⟩)
       have HZQ : Hid (((0 : Int) : Rat) = zq) := Lib.hid (by rw [hzq]; rfl)
       clear hzq HMQ
       go_wp2_with fail
       refine (mwhole_is 0 zq HZQ.out (by decide) (by decide) X).mono ?_
       rintro e w2' ⟨v1, rfl, hv1, hbz⟩
       obtain ⟨p1, g1, p2, g2, rfl, _, _⟩ := hv1.open_
       generalize decide (zq.num < 0) = bO at *
       generalize (digs zq.num.natAbs).length = m1 at *
       generalize (digs zq.den).length = m2 at *
       have HV1 := Lib.hid hv1
       clear hv1 hk hlt
       replace HF_o := Lib.hid (HF_o.out.ext HB_o.out hbz)
       replace HB_o := Lib.hid (HB_o.out.ext hbz)
       replace HW := Lib.hid (ext_trans HW.out hbz)
       clear hbz
       go_upto_region 18 with (fail)
       refine wp_box1r fun w3' hsz hbz hC hF => ?_
       clear hsz
       have lt_o_s : w.heap.size < w2'.heap.size := HB_o.out.1
       have le_s : w.heap.size ≤ w2'.heap.size := HW.out.size
       replace HF_o := Lib.hid (HF_o.out.ext HB_o.out hbz)
       replace HB_o := Lib.hid (HB_o.out.ext hbz)
       replace HV1 := Lib.hid (HV1.out.ext hbz)
       replace HW := Lib.hid (ext_trans HW.out hbz)
       clear hbz
       have HB_s := Lib.hid hC
       have HF_s := Lib.hid hF
       clear hC hF
       generalize w2'.heap.size = b_s at *
       have HACC : Hid (Acc w3' b_s zq) := Lib.hid ⟨⟨⟨bO, p1, m1, g1, p2, m2, g2⟩, HB_s.out, HV1.out⟩, HF_s.out⟩
       clear HB_s HF_s HV1
       go_wp2
       go_loopw [11, 12, 67] (fun _ _ i wr => ∃ (k : Nat) (S : Rat), k ≤ cs.length ∧ i = .int .i64 (k : Int) ∧ Hid (misL n wt S (prs (cs.drop k) (xs.drop k)) = misQ cs xs) ∧ Hid (MsOk k S) ∧ (Box wr w.heap.size #[.string ⟨#[]⟩, .string ⟨#[]⟩]) ∧ (Fre wr w.heap.size) ∧ (Acc wr b_s S) ∧ (Below w.heap.size w wr)) (fun _ _ i _ => cs.length - (intOf i).toNat)
       case atStart => exact ⟨0, zq, by omega, by rfl, HZ.out.2, HZ.out.1, HB_o.out, HF_o.out, HACC.out, HW.out⟩
       case round =>
        obtain ⟨k, S, hk, rfl, HSS, HOK, q_HB_o, q_HF_o, q_HACC, q_HW⟩ := hrel
        clear HB_o HF_o HACC HW
        clear HZ
        have HB_o := Lib.hid q_HB_o
        have HF_o := Lib.hid q_HF_o
        have HACC := Lib.hid q_HACC
        have HW := Lib.hid q_HW
        clear q_HB_o q_HF_o q_HACC q_HW
        generalize hX : wr = Y at *
        clear hX
        by_cases hlt : k < cs.length
        ·have hlt2 : k < xs.length := by rw [← HLX.out]; exact hlt
         have e0 : Y.cell? ⟨pb, po + k, none⟩ = some (.int .i64 cs[k]) := by obtain ⟨_, _, e, h⟩ := ic_at (HS.out.ext HW.out) hlt; cases e; exact h
         have e1 : Y.cell? ⟨qb, qo + k, none⟩ = some (.int .i64 xs[k]) := by obtain ⟨_, _, e, h⟩ := ic_at (HS2.out.ext HW.out) hlt2; cases e; exact h
         obtain ⟨ck, xk, hc, hx, hR, hc1, hx1, hst⟩ := HALL.out.round hlt hlt2
         rw [hc] at e0
         rw [hx] at e1
         obtain ⟨sh, hsh⟩ : ∃ q, (n : Rat) * (xk : Rat) / (wt : Rat) = q := ⟨_, rfl⟩
         obtain ⟨df, hdf⟩ : ∃ q, (ck : Rat) - sh = q := ⟨_, rfl⟩
         obtain ⟨sq, hsq⟩ : ∃ q, df * df = q := ⟨_, rfl⟩
         obtain ⟨tm, htm⟩ : ∃ q, sq / sh = q := ⟨_, rfl⟩
         obtain ⟨S', hS⟩ : ∃ q, S + tm = q := ⟨_, rfl⟩
         obtain ⟨l1, l2, l3, l4, l5⟩ := hR
         have hmt : misT n wt (ck, xk) = tm := by unfold misT; simp only; rw [hsh, hdf, hsq, htm]
         rw [hmt] at l5 hst
         rw [hsh] at l1 l2 l3 l4
         rw [hdf] at l3 l4
         rw [hsq] at l4
         have HNX : Hid (misL n wt S' (prs (cs.drop (k + 1)) (xs.drop (k + 1))) = misQ cs xs) := Lib.hid (by rw [← HSS.out, hst, hS])
         have HO2 : Hid (MsOk (k + 1) S') := Lib.hid (by rw [← hS]; exact HOK.out.add l5)
         have HL := Lib.hid (And.intro l1 (And.intro l3 (And.intro l4 l5)))
         have HSH0 : Hid (sh ≠ 0) := Lib.hid (fun e => by rw [e] at l2; exact Rat.lt_irrefl l2)
         have HEQ := Lib.hid (And.intro hsh (And.intro hdf (And.intro hsq (And.intro htm hS))))
         clear hsh hdf hsq htm hS hmt l1 l2 l3 l4 l5 hst hc hx HSS
         have hk0 : (0 : Int) ≤ (k : Int) := Int.natCast_nonneg _
         have hk1 : (k : Int) < (cs.length : Int) := by omega
         have hk2 : (k : Int) < (xs.length : Int) := by omega
         have hk3 : (k : Int).toNat = k := by omega
         obtain ⟨nx, hnx⟩ : ∃ q, ((n : Int) : Rat) * ((xk : Int) : Rat) = q := ⟨_, rfl⟩
         obtain ⟨wq, hwq⟩ : ∃ q, ((wt : Int) : Rat) = q := ⟨_, rfl⟩
         obtain ⟨cq, hcq⟩ : ∃ q, ((ck : Int) : Rat) = q := ⟨_, rfl⟩
         have HE2 : Hid (nx / wq = sh ∧ cq - sh = df ∧ wq ≠ 0 ∧ Sm nx ∧ Sm wq ∧ Sm cq) := Lib.hid (by
          rw [← hnx, ← hwq, ← hcq, Rat.intCast_natCast, Rat.intCast_natCast, Rat.intCast_natCast]
          refine ⟨HEQ.out.1, HEQ.out.2.1, ne_pos (ncast_pos hw1), ?_, ?_, ?_⟩
          ·rw [← Rat.natCast_mul]; exact Ln.sm (a := 11) (b := 0) (Ln.nat (Nat.le_trans (Nat.mul_le_mul hn0 hx1) (by decide))) (by omega) (by omega)
          ·exact Ln.sm (a := 7) (b := 0) (Ln.nat (Nat.le_trans hw0 (by decide))) (by omega) (by omega)
          ·exact Ln.sm (a := 5) (b := 0) (Ln.nat (Nat.le_trans hc1 (by decide))) (by omega) (by omega))
         have HNX2 := Lib.hid (And.intro hnx (And.intro hwq hcq))
         have HSM : Hid (Sm sh ∧ Sm df ∧ Sm sq ∧ Sm tm ∧ Sm S) := Lib.hid ⟨HL.out.1.sm (by omega) (by omega), HL.out.2.1.sm (by omega) (by omega), HL.out.2.2.1.sm (by omega) (by omega), HL.out.2.2.2.sm (by omega) (by omega), Ln.sm HOK.out (by omega) (by omega)⟩
         clear hnx hwq hcq HL
         go_wp2_with fail
         refine (mtimes_is _ _ nx HNX2.out.1 (by omega) (by omega) (by omega) (by omega) Y).mono ?_
         rintro e w4' ⟨v1, rfl, hv1, hbz⟩
         have HNV := Lib.hid hv1
         clear hv1
         replace HF_o := Lib.hid (HF_o.out.ext HB_o.out hbz)
         replace HB_o := Lib.hid (HB_o.out.ext hbz)
         replace HACC := Lib.hid (HACC.out.ext hbz)
         replace HW := Lib.hid (ext_trans HW.out hbz)
         clear hbz
         go_wp2_with fail
         refine (mwhole_is _ wq HNX2.out.2.1 (by omega) (by omega) w4').mono ?_
         rintro e w5' ⟨v2, rfl, hv2, hbz⟩
         have HWV := Lib.hid hv2
         clear hv2
         replace HF_o := Lib.hid (HF_o.out.ext HB_o.out hbz)
         replace HB_o := Lib.hid (HB_o.out.ext hbz)
         replace HACC := Lib.hid (HACC.out.ext hbz)
         replace HNV := Lib.hid (HNV.out.ext hbz)
         replace HW := Lib.hid (ext_trans HW.out hbz)
         clear hbz
         go_wp2_with fail
         refine (mover_is nx wq sh HE2.out.1 HE2.out.2.2.1 _ _ w5' HNV.out HWV.out HE2.out.2.2.2.1 HE2.out.2.2.2.2.1).mono ?_
         rintro e w6' ⟨v3, rfl, hv3, hbz⟩
         obtain ⟨p3, g3, p4, g4, rfl, _, _⟩ := hv3.open_
         generalize decide (sh.num < 0) = bS at *
         generalize (digs sh.num.natAbs).length = m3 at *
         generalize (digs sh.den).length = m4 at *
         have HV3 := Lib.hid hv3
         clear hv3 e0 e1
         replace HF_o := Lib.hid (HF_o.out.ext HB_o.out hbz)
         replace HB_o := Lib.hid (HB_o.out.ext hbz)
         replace HACC := Lib.hid (HACC.out.ext hbz)
         replace HNV := Lib.hid (HNV.out.ext hbz)
         replace HWV := Lib.hid (HWV.out.ext hbz)
         replace HW := Lib.hid (ext_trans HW.out hbz)
         clear hbz
         clear HNV HWV
         have lts : b_s < w6'.heap.size := by obtain ⟨⟨_, h, _⟩, _⟩ := HACC.out; exact h.1
         go_upto_region 22 with (fail)
         refine wp_box1r fun w7' hsz hbz hC hF => ?_
         clear hsz
         have lt_o_d : w.heap.size < w6'.heap.size := HB_o.out.1
         have le_d : w.heap.size ≤ w6'.heap.size := HW.out.size
         replace HF_o := Lib.hid (HF_o.out.ext HB_o.out hbz)
         replace HB_o := Lib.hid (HB_o.out.ext hbz)
         replace HACC := Lib.hid (HACC.out.ext hbz)
         replace HV3 := Lib.hid (HV3.out.ext hbz)
         replace HW := Lib.hid (ext_trans HW.out hbz)
         clear hbz
         have HB_d := Lib.hid hC
         have HF_d := Lib.hid hF
         clear hC hF
         generalize w6'.heap.size = b_d at *
         have lt_s_d : b_s < b_d := lts
         clear lts
         have HSHA : Hid (Acc w7' b_d sh) := Lib.hid ⟨⟨⟨bS, p3, m3, g3, p4, m4, g4⟩, HB_d.out, HV3.out⟩, HF_d.out⟩
         clear HB_d HF_d HV3
         obtain ⟨⟨⟨ub, ua1, un1, uc1, ua2, un2, uc2⟩, huB, huX⟩, huF⟩ := id HSHA.out
         have c_u_0 : w7'.cell? ⟨b_d, 0, none⟩ = some (.bool ub) := huB.2 0
         have c_u_1 : w7'.cell? ⟨b_d, 1, none⟩ = some (.slice ua1 un1 uc1) := huB.2 1
         have c_u_2 : w7'.cell? ⟨b_d, 2, none⟩ = some (.slice ua2 un2 uc2) := huB.2 2
         have HXu := Lib.hid huX
         have HQu := Lib.hid (And.intro huB huF)
         clear huB huX huF
         refine Grow.wp_region_grow 5 [TP.eq (.int .i64 (ck : Int)), TP.xq cq, TP.eq (.agg #[.bool ub, .slice ua1 un1 uc1, .slice ua2 un2 uc2]), TP.xq df, TP.new w7'.heap.size zeroX] [[], [0], [], [1, 2], []] (by kernel_rfl) (by kernel_rfl) ⟨?o0d, ?o1d, ?o2d, ?o3d, ?o4d, trivial⟩ ?_
         case o0d =>
          intro w' hb
          show wpList _ _ _ _ _ _
          go_wp2
          exact ⟨rfl, Below.refl _ _, rfl⟩
         case o1d =>
          intro w' hb v1 hv1
          obtain rfl : v1 = _ := hv1
          show wpList _ _ _ _ _ _
          simp only [Grow.dstOf, zz1, zz3, zz4, Act.put, zz5, zz6, zz7]
          go_wp2_with fail
          refine (mwhole_is _ cq HNX2.out.2.2 (by omega) (by omega) w').mono ?_
          rintro e wz ⟨vz, rfl, hxz, hbz⟩
          go_wp2
          exact ⟨hxz, hbz, rfl⟩
         case o2d =>
          intro w' hb
          have c_u_0' := zzc hb c_u_0
          have c_u_1' := zzc hb c_u_1
          have c_u_2' := zzc hb c_u_2
          show wpList _ _ _ _ _ _
          go_wp2
          exact ⟨rfl, Below.refl _ _, rfl⟩
         case o3d =>
          intro w' hb v1 hv1 v2 hv2
          obtain rfl : v2 = _ := hv2
          have hv1' : XR w' v1 cq := hv1
          clear hv1
          show wpList _ _ _ _ _ _
          simp only [Grow.dstOf, zz1, zz2, zz3, zz4, Act.put, zz5, zz6, zz7]
          go_wp2_with fail
          refine (mminus_is cq sh df HE2.out.2.1 _ _ w' hv1' (HXu.out.ext hb) HE2.out.2.2.2.2.2 HSM.out.1).mono ?_
          rintro e wz ⟨vz, rfl, hxz, hbz⟩
          go_wp2
          exact ⟨hxz, hbz, rfl⟩
         case o4d =>
          intro w' hb
          show wpList _ _ _ _ _ _
          go_wp2
          exact ⟨⟨_, rfl, hb.size, Box.new _ _ _, Fre.new _ _ _⟩, ext_alloc _ _, rfl⟩
         intro w8' hbz u0 hu0 u1 hu1 u2 hu2 u3 hu3 u4 hu4
         have hv4 : XR w8' u3 df := hu3
         have hg4 : ∃ g, u4 = .pointer (some ⟨g, 0, none⟩) ∧ w7'.heap.size ≤ g ∧ Box w8' g zeroX ∧ Fre w8' g := hu4
         clear hu0 hu1 hu2 hu3 hu4
         have lts : b_s < w7'.heap.size ∧ b_d < w7'.heap.size := by obtain ⟨⟨_, h, _⟩, _⟩ := HACC.out; obtain ⟨⟨_, h', _⟩, _⟩ := HSHA.out; exact ⟨h.1, h'.1⟩
         obtain ⟨b_f, rfl, hgY, hXg, hFg⟩ := hg4
         have lt_o_f : w.heap.size < b_f := Nat.lt_of_lt_of_le HB_o.out.1 hgY
         have le_f : w.heap.size ≤ b_f := Nat.le_trans HW.out.size hgY
         have lt_s_f : b_s < b_f := Nat.lt_of_lt_of_le lts.1 hgY
         have lt_d_f : b_d < b_f := Nat.lt_of_lt_of_le lts.2 hgY
         clear lts hgY HXu HQu
         replace HF_o := Lib.hid (HF_o.out.ext HB_o.out hbz)
         replace HB_o := Lib.hid (HB_o.out.ext hbz)
         replace HACC := Lib.hid (HACC.out.ext hbz)
         replace HSHA := Lib.hid (HSHA.out.ext hbz)
         replace HW := Lib.hid (ext_trans HW.out hbz)
         clear c_u_0 c_u_1 c_u_2
         clear hbz
         obtain ⟨p5, g5, p6, g6, rfl, _, _⟩ := hv4.open_
         generalize decide (df.num < 0) = bD at *
         generalize (digs df.num.natAbs).length = m5 at *
         generalize (digs df.den).length = m6 at *
         have HV4 := Lib.hid hv4
         have HXG := Lib.hid hXg
         have HFG := Lib.hid hFg
         obtain ⟨r0, r1, r2⟩ := boxX hXg
         have f0 := hFg 0
         have f1 := hFg 1
         have f2 := hFg 2
         clear hv4 hXg hFg
         show wpList _ _ _ _ _ _
         simp only [Act.put, zz5, zz6, zz7]
         go_upto_region 23 with (fail)
         obtain ⟨w9', hX⟩ : ∃ X, X = (((w8'.setCell ⟨b_f, 0, none⟩ (.bool bD)).setCell ⟨b_f, 1, none⟩ (.slice p5 m5 g5)).setCell ⟨b_f, 2, none⟩ (.slice p6 m6 g6)) := ⟨_, rfl⟩
         rw [← hX]
         have nB_o : Hid (Box w9' w.heap.size #[.string ⟨#[]⟩, .string ⟨#[]⟩]) := by rw [hX]; exact Lib.hid (ybox_other HB_o.out (Nat.ne_of_gt lt_o_f) _ _ _)
         have nF_o : Hid (Fre w9' w.heap.size) := by rw [hX]; exact Lib.hid (fre_set3 HF_o.out _ _ _)
         have n_HACC : Hid (Acc w9' b_s S) := by rw [hX]; exact Lib.hid (acc_other HACC.out (t := ⟨false, none, 0, 0, none, 0, 0⟩) HXG.out (Nat.ne_of_gt lt_s_f) _ _ _)
         have n_HSHA : Hid (Acc w9' b_d sh) := by rw [hX]; exact Lib.hid (acc_other HSHA.out (t := ⟨false, none, 0, 0, none, 0, 0⟩) HXG.out (Nat.ne_of_gt lt_d_f) _ _ _)
         have n_HV4 : Hid (Acc w9' b_f df) := by rw [hX]; exact Lib.hid (acc_set (t := ⟨false, none, 0, 0, none, 0, 0⟩) ⟨bD, p5, m5, g5, p6, m6, g6⟩ HXG.out HFG.out HV4.out)
         have n_HW : Hid (Below w.heap.size w w9') := by rw [hX]; exact Lib.hid (below_set3 HW.out le_f _ _ _)
         clear r0 r1 r2 f0 f1 f2
         clear hX HB_o HF_o HACC HSHA HV4 HW
         have HB_o := nB_o; clear nB_o; have HF_o := nF_o; clear nF_o
         have HACC := n_HACC; clear n_HACC
         have HSHA := n_HSHA; clear n_HSHA
         have HV4 := n_HV4; clear n_HV4
         have HW := n_HW; clear n_HW
         clear HXG HFG
         obtain ⟨⟨⟨tb, ta1, tn1, tc1, ta2, tn2, tc2⟩, htB, htX⟩, htF⟩ := id HACC.out
         have c_t_0 : w9'.cell? ⟨b_s, 0, none⟩ = some (.bool tb) := htB.2 0
         have c_t_1 : w9'.cell? ⟨b_s, 1, none⟩ = some (.slice ta1 tn1 tc1) := htB.2 1
         have c_t_2 : w9'.cell? ⟨b_s, 2, none⟩ = some (.slice ta2 tn2 tc2) := htB.2 2
         have HXt := Lib.hid htX
         have HQt := Lib.hid (And.intro htB htF)
         clear htB htX htF
         obtain ⟨⟨⟨ub, ua1, un1, uc1, ua2, un2, uc2⟩, huB, huX⟩, huF⟩ := id HSHA.out
         have c_u_0 : w9'.cell? ⟨b_d, 0, none⟩ = some (.bool ub) := huB.2 0
         have c_u_1 : w9'.cell? ⟨b_d, 1, none⟩ = some (.slice ua1 un1 uc1) := huB.2 1
         have c_u_2 : w9'.cell? ⟨b_d, 2, none⟩ = some (.slice ua2 un2 uc2) := huB.2 2
         have HXu := Lib.hid huX
         have HQu := Lib.hid (And.intro huB huF)
         clear huB huX huF
         obtain ⟨⟨⟨yb, ya1, yn1, yc1, ya2, yn2, yc2⟩, hyB, hyX⟩, hyF⟩ := id HV4.out
         have c_y_0 : w9'.cell? ⟨b_f, 0, none⟩ = some (.bool yb) := hyB.2 0
         have c_y_1 : w9'.cell? ⟨b_f, 1, none⟩ = some (.slice ya1 yn1 yc1) := hyB.2 1
         have c_y_2 : w9'.cell? ⟨b_f, 2, none⟩ = some (.slice ya2 yn2 yc2) := hyB.2 2
         have HXy := Lib.hid hyX
         have HQy := Lib.hid (And.intro hyB hyF)
         clear hyB hyX hyF
         refine Grow.wp_region_grow 7 [TP.eq (.agg #[.bool tb, .slice ta1 tn1 tc1, .slice ta2 tn2 tc2]), TP.eq (.agg #[.bool yb, .slice ya1 yn1 yc1, .slice ya2 yn2 yc2]), TP.eq (.agg #[.bool yb, .slice ya1 yn1 yc1, .slice ya2 yn2 yc2]), TP.xq sq, TP.eq (.agg #[.bool ub, .slice ua1 un1 uc1, .slice ua2 un2 uc2]), TP.xq tm, TP.xq S'] [[], [], [], [1, 2], [], [3, 4], [0, 5]] (by kernel_rfl) (by kernel_rfl) ⟨?o0s, ?o1s, ?o2s, ?o3s, ?o4s, ?o5s, ?o6s, trivial⟩ ?_
         case o0s =>
          intro w' hb
          have c_t_0' := zzc hb c_t_0
          have c_t_1' := zzc hb c_t_1
          have c_t_2' := zzc hb c_t_2
          show wpList _ _ _ _ _ _
          go_wp2
          exact ⟨rfl, Below.refl _ _, rfl⟩
         case o1s =>
          intro w' hb
          have c_y_0' := zzc hb c_y_0
          have c_y_1' := zzc hb c_y_1
          have c_y_2' := zzc hb c_y_2
          show wpList _ _ _ _ _ _
          go_wp2
          exact ⟨rfl, Below.refl _ _, rfl⟩
         case o2s =>
          intro w' hb
          have c_y_0' := zzc hb c_y_0
          have c_y_1' := zzc hb c_y_1
          have c_y_2' := zzc hb c_y_2
          show wpList _ _ _ _ _ _
          go_wp2
          exact ⟨rfl, Below.refl _ _, rfl⟩
         case o3s =>
          intro w' hb v1 hv1 v2 hv2
          obtain rfl : v1 = _ := hv1
          obtain rfl : v2 = _ := hv2
          show wpList _ _ _ _ _ _
          simp only [Grow.dstOf, zz1, zz2, zz3, zz4, Act.put, zz5, zz6, zz7]
          go_wp2_with fail
          refine (xtimes_sm df df sq HEQ.out.2.2.1 _ _ w' (HXy.out.ext hb) (HXy.out.ext hb) HSM.out.2.1 HSM.out.2.1).mono ?_
          rintro e wz ⟨vz, rfl, hxz, hbz⟩
          go_wp2
          exact ⟨hxz, hbz, rfl⟩
         case o4s =>
          intro w' hb
          have c_u_0' := zzc hb c_u_0
          have c_u_1' := zzc hb c_u_1
          have c_u_2' := zzc hb c_u_2
          show wpList _ _ _ _ _ _
          go_wp2
          exact ⟨rfl, Below.refl _ _, rfl⟩
         case o5s =>
          intro w' hb v1 hv1 v2 hv2
          obtain rfl : v2 = _ := hv2
          have hv1' : XR w' v1 sq := hv1
          clear hv1
          show wpList _ _ _ _ _ _
          simp only [Grow.dstOf, zz1, zz2, zz3, zz4, Act.put, zz5, zz6, zz7]
          go_wp2_with fail
          refine (mover_is sq sh tm HEQ.out.2.2.2.1 HSH0.out _ _ w' hv1' (HXu.out.ext hb) HSM.out.2.2.1 HSM.out.1).mono ?_
          rintro e wz ⟨vz, rfl, hxz, hbz⟩
          go_wp2
          exact ⟨hxz, hbz, rfl⟩
         case o6s =>
          intro w' hb v1 hv1 v2 hv2
          obtain rfl : v1 = _ := hv1
          have hv2' : XR w' v2 tm := hv2
          clear hv2
          show wpList _ _ _ _ _ _
          simp only [Grow.dstOf, zz1, zz2, zz3, zz4, Act.put, zz5, zz6, zz7]
          go_wp2_with fail
          refine (xplus_sm S tm S' HEQ.out.2.2.2.2 _ _ w' (HXt.out.ext hb) hv2' HSM.out.2.2.2.2 HSM.out.2.2.2.1).mono ?_
          rintro e wz ⟨vz, rfl, hxz, hbz⟩
          go_wp2
          exact ⟨hxz, hbz, rfl⟩
         intro w10' hbz u0 hu0 u1 hu1 u2 hu2 u3 hu3 u4 hu4 u5 hu5 u6 hu6
         have hv5 : XR w10' u6 S' := hu6
         clear hu0 hu1 hu2 hu3 hu4 hu5 hu6 HXt HQt HXu HQu HXy HQy
         replace HF_o := Lib.hid (HF_o.out.ext HB_o.out hbz)
         replace HB_o := Lib.hid (HB_o.out.ext hbz)
         replace HACC := Lib.hid (HACC.out.ext hbz)
         replace HSHA := Lib.hid (HSHA.out.ext hbz)
         replace HV4 := Lib.hid (HV4.out.ext hbz)
         replace HW := Lib.hid (ext_trans HW.out hbz)
         clear c_t_0 c_t_1 c_t_2 c_u_0 c_u_1 c_u_2 c_y_0 c_y_1 c_y_2
         clear hbz
         obtain ⟨p7, g7, p8, g8, rfl, _, _⟩ := hv5.open_
         generalize decide (S'.num < 0) = bT at *
         generalize (digs S'.num.natAbs).length = m7 at *
         generalize (digs S'.den).length = m8 at *
         have HV5 := Lib.hid hv5
         clear hv5
         obtain ⟨⟨⟨tb, ta1, tn1, tc1, ta2, tn2, tc2⟩, htB, htX⟩, htF⟩ := id HACC.out
         have c_t_0 : w10'.cell? ⟨b_s, 0, none⟩ = some (.bool tb) := htB.2 0
         have c_t_1 : w10'.cell? ⟨b_s, 1, none⟩ = some (.slice ta1 tn1 tc1) := htB.2 1
         have c_t_2 : w10'.cell? ⟨b_s, 2, none⟩ = some (.slice ta2 tn2 tc2) := htB.2 2
         have HXt := Lib.hid htX
         have HQt := Lib.hid (And.intro htB htF)
         clear htB htX htF
         have f_t_0 := HQt.out.2 0
         have f_t_1 := HQt.out.2 1
         have f_t_2 := HQt.out.2 2
         show wpList _ _ _ _ _ _
         simp only [Act.put, zz5, zz6, zz7]
         go_upto_region 24 with (fail)
         obtain ⟨w11', hX⟩ : ∃ X, X = (((w10'.setCell ⟨b_s, 0, none⟩ (.bool bT)).setCell ⟨b_s, 1, none⟩ (.slice p7 m7 g7)).setCell ⟨b_s, 2, none⟩ (.slice p8 m8 g8)) := ⟨_, rfl⟩
         rw [← hX]
         have nB_o : Hid (Box w11' w.heap.size #[.string ⟨#[]⟩, .string ⟨#[]⟩]) := by rw [hX]; exact Lib.hid (ybox_other HB_o.out (Nat.ne_of_gt lt_o_s) _ _ _)
         have nF_o : Hid (Fre w11' w.heap.size) := by rw [hX]; exact Lib.hid (fre_set3 HF_o.out _ _ _)
         have n_HACC : Hid (Acc w11' b_s S') := by rw [hX]; exact Lib.hid (acc_set ⟨bT, p7, m7, g7, p8, m8, g8⟩ HQt.out.1 HQt.out.2 HV5.out)
         have n_HW : Hid (Below w.heap.size w w11') := by rw [hX]; exact Lib.hid (below_set3 HW.out le_s _ _ _)
         clear c_t_0 c_t_1 c_t_2 f_t_0 f_t_1 f_t_2
         clear hX HB_o HF_o HACC HW
         have HB_o := nB_o; clear nB_o; have HF_o := nF_o; clear nF_o
         have HACC := n_HACC; clear n_HACC
         have HW := n_HW; clear n_HW
         clear HXt HQt HV5 HV4 HSHA
         go_wp2
         go_roundw
         case rel => exact ⟨k + 1, S', by omega, by go_num, HNX, HO2, HB_o.out, HF_o.out, HACC.out, HW.out⟩
         case measure => simp [intOf]; omega
        ·have HE : Hid (misQ cs xs = S) := Lib.hid (by rw [← HSS.out, List.drop_of_length_le (show cs.length ≤ k by omega)]; rfl)
         have HFT := Lib.hid (HOK.out.fits (by omega))
         have hsp := HOK.out.small (by omega)
         obtain ⟨⟨⟨tb, ta1, tn1, tc1, ta2, tn2, tc2⟩, htB, htX⟩, htF⟩ := id HACC.out
         have c_t_0 : Y.cell? ⟨b_s, 0, none⟩ = some (.bool tb) := htB.2 0
         have c_t_1 : Y.cell? ⟨b_s, 1, none⟩ = some (.slice ta1 tn1 tc1) := htB.2 1
         have c_t_2 : Y.cell? ⟨b_s, 2, none⟩ = some (.slice ta2 tn2 tc2) := htB.2 2
         have HXt := Lib.hid htX
         have HQt := Lib.hid (And.intro htB htF)
         clear htB htX htF
         go_wp2_with fail
         refine (ratio_at S _ Y HXt.out (by omega) (by omega)).mono ?_
         rintro e w4' ⟨rfl, hbz⟩
         rw [(out_fits HFT.out).1, (out_fits HFT.out).2.1, (out_fits HFT.out).2.2]
         clear HXt HQt
         replace HF_o := Lib.hid (HF_o.out.ext HB_o.out hbz)
         replace HB_o := Lib.hid (HB_o.out.ext hbz)
         replace HACC := Lib.hid (HACC.out.ext hbz)
         replace HW := Lib.hid (ext_trans HW.out hbz)
         clear c_t_0 c_t_1 c_t_2
         clear hbz
         have c_o_0 : w4'.cell? ⟨w.heap.size, 0, none⟩ = some (.string ⟨#[]⟩) := HB_o.out.2 0
         have c_o_1 : w4'.cell? ⟨w.heap.size, 1, none⟩ = some (.string ⟨#[]⟩) := HB_o.out.2 1
         have f_o_0 := HF_o.out 0
         have f_o_1 := HF_o.out 1
         have HN2 : Hid (misN cs xs = showN S ∧ misD cs xs = showD S) := Lib.hid ⟨by unfold misN; rw [if_pos HV0.out, HE.out], by unfold misD; rw [if_pos HV0.out, HE.out]⟩
         have HR := Lib.hid (Nt.res2s (.string (showN S)) (.string (showD S)) HB_o.out HW.out (show w.heap.size ≤ w.heap.size by omega))
         obtain ⟨hbF, z0, z1⟩ := id HR.out
         clear hbF
         go_wp2
         exact bodyPost_ret (v := .tuple #[.agg #[.string (showN S), .string (showD S)], .int .i64 0]) (by simp [results, Tryd.results4, go_sem, z0, z1]) rfl ⟨by rw [HN2.out.1, HN2.out.2, HV0.out], HR.out.1⟩
end Nm
end Go.Proofs.YtilolnjbpokdnaaDoor
