/- side of the reference: the capitals of bets on up. Printed by gen_side.py. -/
import Derived.Test.YtilolnjbpokdnaaGreatDoorBq37
import Derived.Test.YtilolnjbpokdnaaGreatDoorBq41
import Derived.Test.YtilolnjbpokdnaaGreatDoorBq29
import Derived.Test.YtilolnjbpokdnaaGreatDoorBq39
import Derived.Test.YtilolnjbpokdnaaGreatDoorBq40
import Derived.Test.YtilolnjbpokdnaaGreatDoorBq38
namespace Go.Proofs.YtilolnjbpokdnaaGreatDoor
open Go.RowKit
namespace Nm
theorem Ln.pow {a b : Nat} {q : Rat} (h : Ln a b q) : ∀ n, Ln (a * n) (b * n) (q ^ n)
 | 0 => by rw [Rat.pow_zero]; exact (Ln.nat (n := 1) (a := 0) (by decide)).mono (by omega) (by omega)
 | n + 1 => by rw [Rat.pow_succ, Nat.mul_succ, Nat.mul_succ]; exact (Ln.pow h n).mul h
theorem frac_ln {n d a b : Nat} (hd : d ≠ 0) (h1 : n ≤ 10 ^ a) (h2 : d ≤ 10 ^ b) : Ln a b ((n : Rat) / (d : Rat)) := by
 have e : (n : Rat) / (d : Rat) = mkRat (n : Int) d := by rw [Rat.mkRat_eq_div, Rat.intCast_natCast]
 rw [e]
 exact FZ.ln (D := d) (M := n) ⟨hd, (n : Int), by omega, rfl⟩ h1 h2
theorem win_ln {bets k : Nat} (hb : bets ≤ 5) (hk : k ≤ bets) : Ln 2 1 (winR bets k) := frac_ln (by omega) (by omega) (by omega)
theorem lose_ln {bets k : Nat} (hb : bets ≤ 5) : Ln 2 1 (loseR bets k) := frac_ln (by omega) (by omega) (by omega)
theorem bet_ln {bets up down k : Nat} (hb : bets ≤ 5) (hk : k ≤ bets) (hu : up ≤ 60) (hd : down ≤ 60) : Ln 240 120 (betR bets up down k) :=
 (((win_ln hb hk).pow up).mul ((lose_ln hb).pow down)).mono (by omega) (by omega)
theorem sideS_ln {bets up down : Nat} (hb : bets ≤ 5) (hu : up ≤ 60) (hd : down ≤ 60) : ∀ k, k ≤ bets → Ln (400 * k) (120 * k) (sideS bets up down k)
 | 0, _ => by
  have h : sideS bets up down 0 = 0 := rfl
  rw [h]
  exact Ln.nat (n := 0) (a := 0) (by decide)
 | k + 1, hk => by
  have h : sideS bets up down (k + 1) = sideS bets up down k + betR bets up down (k + 1) := rfl
  rw [h]
  exact ((sideS_ln hb hu hd k (by omega)).add (bet_ln hb hk hu hd)).mono (by omega) (by omega)
theorem side_ln {bets up down : Nat} (h1 : 1 ≤ bets) (hb : bets ≤ 5) (hu : up ≤ 60) (hd : down ≤ 60) : Ln 2000 601 (sideR bets up down) := by
 have h := sideS_ln hb hu hd bets (Nat.le_refl _)
 exact (h.div (Ln.nat (n := bets) (a := 1) (by omega)) (ne_of_pos (natCast_pos (by omega)))).mono (by omega) (by omega)
theorem quoQ_nat (n d : Nat) (hd : 0 < d) : quoQ (n : Int) (d : Int) = (n : Rat) / (d : Rat) := by
 unfold quoQ
 rw [dif_neg (by omega)]
 have h : (decide ((n : Int) < 0) != decide ((d : Int) < 0)) = false := by
  rw [decide_eq_false (by omega), decide_eq_false (by omega)]; rfl
 rw [Rat.normalize_eq_mkRat, h]
 show mkRat (((n : Int).natAbs : Nat) : Int) (d : Int).natAbs = _
 rw [Int.natAbs_natCast, Int.natAbs_natCast, Rat.mkRat_eq_div, Rat.intCast_natCast]
theorem quo_nat {n d : Nat} (hd : 0 < d) (h : Fits ((n : Rat) / (d : Rat))) : quoN (n : Int) (d : Int) = showN ((n : Rat) / (d : Rat)) ∧ quoD (n : Int) (d : Int) = showD ((n : Rat) / (d : Rat)) ∧ quoF (n : Int) (d : Int) = 0 := by
 have h0 : ¬ (d : Int) = 0 := by omega
 unfold quoN quoD quoF
 rw [if_neg h0, if_neg h0, if_neg h0, quoQ_nat n d hd]
 exact out_fits h
end Nm
namespace Nt
open _root_.Go.Proofs.YtilolnjbpokdnaaGreatDoor.Nm (showN showD Fits fits_int sideS sideR betR winR loseR win_ln lose_ln bet_ln sideS_ln side_ln Ln AnsPost quo_nat quoN quoD quoF)
theorem ratioOf_is (a b : Int) (n d : Nat) (q : Rat) (hq : (n : Rat) / (d : Rat) = q) (ha : a = (n : Int)) (hb : b = (d : Int)) (hd : 0 < d) (h1 : n ≤ 1000000000000000000) (h2 : d ≤ 1000000000000000000) (h : Fits q) (w : World) (ht : Tab w) :
  Calls Tryz.prog 81 #[.int .i64 a, .int .i64 b] w (AnsPost w (showN q) (showD q) 0) := by
 subst ha; subst hb; subst hq
 have h := refRatioOf_at (n : Int) (d : Int) (by omega) (by omega) (by omega) (by omega) w ht
 rw [(quo_nat hd ‹_›).1, (quo_nat hd ‹_›).2.1, (quo_nat hd ‹_›).2.2] at h
 exact h
set_option maxRecDepth 100000 in
set_option maxHeartbeats 16000000 in
theorem side_at (bets up down : Nat) (h1 : 1 ≤ bets) (h5 : bets ≤ 5) (hu : up ≤ 60) (hd : down ≤ 60) (w : World) (ht : Tab w) : Calls Tryz.prog 178 #[.int .i64 (bets : Int), .int .i64 (up : Int), .int .i64 (down : Int)] w (RtP w (sideR bets up down)) := by
 have HFw : Hid (∀ k j, k ≤ bets → j ≤ up → Fits (winR bets k ^ j)) := Lib.hid fun k j hk hj => ((win_ln h5 hk).pow j).fits (by omega) (by omega)
 have HFl : Hid (∀ k j, k ≤ bets → j ≤ down → Fits (winR bets k ^ up * loseR bets k ^ j)) := Lib.hid fun k j hk hj => (bet_ln h5 hk hu (Nat.le_trans hj hd)).fits (by omega) (by omega)
 have HFs : Hid (∀ k, k ≤ bets → Fits (sideS bets up down k)) := Lib.hid fun k hk => (sideS_ln h5 hu hd k hk).fits (by omega) (by omega)
 have HFr : Hid (Fits (sideR bets up down)) := Lib.hid ((side_ln h1 h5 hu hd).fits (by omega) (by omega))
 go_enter Tryz.func178, Tryz.ntmps178
 have HT0 := Lib.hid ht
 clear ht
 go_upto_region 1 with (fail)
 refine wp_box1r fun w1' hsz hbW hC hF => ?_
 clear hsz
 have HB_res := Lib.hid hC
 have HF_res := Lib.hid hF
 have HW := Lib.hid hbW
 clear hbW hC hF
 go_wp2_with fail
 refine (whole0 w1' (HT0.out.ext HW.out)).mono ?_
 rintro e w2' ⟨rfl, hbz⟩
 replace HF_res := Lib.hid (HF_res.out.ext HB_res.out hbz)
 replace HB_res := Lib.hid (HB_res.out.ext hbz)
 replace HW := Lib.hid (ext_trans HW.out hbz)
 clear hbz
 go_upto_region 2 with (fail)
 refine wp_box1r fun w3' hsz hbz hC hF => ?_
 clear hsz
 have lt_res_out : w.heap.size < w2'.heap.size := HB_res.out.1
 have le_out : w.heap.size ≤ w2'.heap.size := HW.out.size
 replace HF_res := Lib.hid (HF_res.out.ext HB_res.out hbz)
 replace HB_res := Lib.hid (HB_res.out.ext hbz)
 replace HW := Lib.hid (ext_trans HW.out hbz)
 clear hbz
 have HB_out := Lib.hid hC
 have HF_out := Lib.hid hF
 clear hC hF
 generalize w2'.heap.size = b_out at *
 go_wp2
 go_loopw [8] (fun i wr => ∃ kk : Nat, kk ≤ bets ∧ i = .int .i64 ((kk + 1 : Nat) : Int) ∧ (Box wr w.heap.size #[.string ⟨#[]⟩, .string ⟨#[]⟩]) ∧ (Fre wr w.heap.size) ∧ (Box wr b_out #[.string (showN (sideS bets up down kk)), .string (showD (sideS bets up down kk))]) ∧ (Fre wr b_out) ∧ (Below w.heap.size w wr)) (fun i _ => bets + 1 - (intOf i).toNat)
 case atStart => exact ⟨0, by omega, rfl, HB_res.out, HF_res.out, HB_out.out, HF_out.out, HW.out⟩
 case round =>
  obtain ⟨kk, hkk, rfl, q_HB_res, q_HF_res, q_HB_out, q_HF_out, q_HW⟩ := hrel
  clear HB_res HF_res HB_out HF_out HW
  have HB_res := Lib.hid q_HB_res
  have HF_res := Lib.hid q_HF_res
  have HB_out := Lib.hid q_HB_out
  have HF_out := Lib.hid q_HF_out
  have HW := Lib.hid q_HW
  clear q_HB_res q_HF_res q_HB_out q_HF_out q_HW
  generalize hX : wr = X at *
  by_cases hlt : kk < bets
  ·have e1 : IntKind.i64.wrap ((bets : Int) + 1) = (bets : Int) + 1 := IntWalk.i64_in _ (by omega)
   have e2 : IntKind.i64.wrap ((bets : Int) + 1 + ((kk : Int) + 1)) = (bets : Int) + 1 + ((kk : Int) + 1) := IntWalk.i64_in _ (by omega)
   have e3 : IntKind.i64.wrap ((bets : Int) + 1 - ((kk : Int) + 1)) = (bets : Int) + 1 - ((kk : Int) + 1) := IntWalk.i64_in _ (by omega)
   go_wp2_with fail
   refine (ratioOf_is _ _ (bets + 1 + (kk + 1)) (bets + 1) (winR bets (kk + 1)) rfl (by omega) (by omega) (by omega) (by omega) (by omega) ((win_ln h5 (show kk + 1 ≤ bets by omega)).fits (by omega) (by omega)) X (HT0.out.ext HW.out)).mono ?_
   rintro e w4' ⟨rfl, hbz⟩
   replace HF_res := Lib.hid (HF_res.out.ext HB_res.out hbz)
   replace HB_res := Lib.hid (HB_res.out.ext hbz)
   replace HF_out := Lib.hid (HF_out.out.ext HB_out.out hbz)
   replace HB_out := Lib.hid (HB_out.out.ext hbz)
   replace HW := Lib.hid (ext_trans HW.out hbz)
   clear hbz
   go_upto_region 6 with (fail)
   refine wp_box1r fun w5' hsz hbz hC hF => ?_
   clear hsz
   have lt_res_win : w.heap.size < w4'.heap.size := HB_res.out.1
   have lt_out_win : b_out < w4'.heap.size := HB_out.out.1
   have le_win : w.heap.size ≤ w4'.heap.size := HW.out.size
   replace HF_res := Lib.hid (HF_res.out.ext HB_res.out hbz)
   replace HB_res := Lib.hid (HB_res.out.ext hbz)
   replace HF_out := Lib.hid (HF_out.out.ext HB_out.out hbz)
   replace HB_out := Lib.hid (HB_out.out.ext hbz)
   replace HW := Lib.hid (ext_trans HW.out hbz)
   clear hbz
   have HB_win := Lib.hid hC
   have HF_win := Lib.hid hF
   clear hC hF
   generalize w4'.heap.size = b_win at *
   go_wp2_with fail
   refine (ratioOf_is _ _ (bets + 1 - (kk + 1)) (bets + 1) (loseR bets (kk + 1)) rfl (by omega) (by omega) (by omega) (by omega) (by omega) ((lose_ln (k := kk + 1) h5).fits (by omega) (by omega)) w5' (HT0.out.ext HW.out)).mono ?_
   rintro e w6' ⟨rfl, hbz⟩
   replace HF_res := Lib.hid (HF_res.out.ext HB_res.out hbz)
   replace HB_res := Lib.hid (HB_res.out.ext hbz)
   replace HF_out := Lib.hid (HF_out.out.ext HB_out.out hbz)
   replace HB_out := Lib.hid (HB_out.out.ext hbz)
   replace HF_win := Lib.hid (HF_win.out.ext HB_win.out hbz)
   replace HB_win := Lib.hid (HB_win.out.ext hbz)
   replace HW := Lib.hid (ext_trans HW.out hbz)
   clear hbz
   go_upto_region 7 with (fail)
   refine wp_box1r fun w7' hsz hbz hC hF => ?_
   clear hsz
   have lt_res_los : w.heap.size < w6'.heap.size := HB_res.out.1
   have lt_out_los : b_out < w6'.heap.size := HB_out.out.1
   have lt_win_los : b_win < w6'.heap.size := HB_win.out.1
   have le_los : w.heap.size ≤ w6'.heap.size := HW.out.size
   replace HF_res := Lib.hid (HF_res.out.ext HB_res.out hbz)
   replace HB_res := Lib.hid (HB_res.out.ext hbz)
   replace HF_out := Lib.hid (HF_out.out.ext HB_out.out hbz)
   replace HB_out := Lib.hid (HB_out.out.ext hbz)
   replace HF_win := Lib.hid (HF_win.out.ext HB_win.out hbz)
   replace HB_win := Lib.hid (HB_win.out.ext hbz)
   replace HW := Lib.hid (ext_trans HW.out hbz)
   clear hbz
   have HB_los := Lib.hid hC
   have HF_los := Lib.hid hF
   clear hC hF
   generalize w6'.heap.size = b_los at *
   go_wp2_with fail
   refine (whole1 w7' (HT0.out.ext HW.out)).mono ?_
   rintro e w8' ⟨rfl, hbz⟩
   replace HF_res := Lib.hid (HF_res.out.ext HB_res.out hbz)
   replace HB_res := Lib.hid (HB_res.out.ext hbz)
   replace HF_out := Lib.hid (HF_out.out.ext HB_out.out hbz)
   replace HB_out := Lib.hid (HB_out.out.ext hbz)
   replace HF_win := Lib.hid (HF_win.out.ext HB_win.out hbz)
   replace HB_win := Lib.hid (HB_win.out.ext hbz)
   replace HF_los := Lib.hid (HF_los.out.ext HB_los.out hbz)
   replace HB_los := Lib.hid (HB_los.out.ext hbz)
   replace HW := Lib.hid (ext_trans HW.out hbz)
   clear hbz
   go_upto_region 8 with (fail)
   refine wp_box1r fun w9' hsz hbz hC hF => ?_
   clear hsz
   have lt_res_c : w.heap.size < w8'.heap.size := HB_res.out.1
   have lt_out_c : b_out < w8'.heap.size := HB_out.out.1
   have lt_win_c : b_win < w8'.heap.size := HB_win.out.1
   have lt_los_c : b_los < w8'.heap.size := HB_los.out.1
   have le_c : w.heap.size ≤ w8'.heap.size := HW.out.size
   replace HF_res := Lib.hid (HF_res.out.ext HB_res.out hbz)
   replace HB_res := Lib.hid (HB_res.out.ext hbz)
   replace HF_out := Lib.hid (HF_out.out.ext HB_out.out hbz)
   replace HB_out := Lib.hid (HB_out.out.ext hbz)
   replace HF_win := Lib.hid (HF_win.out.ext HB_win.out hbz)
   replace HB_win := Lib.hid (HB_win.out.ext hbz)
   replace HF_los := Lib.hid (HF_los.out.ext HB_los.out hbz)
   replace HB_los := Lib.hid (HB_los.out.ext hbz)
   replace HW := Lib.hid (ext_trans HW.out hbz)
   clear hbz
   have HB_c := Lib.hid hC
   have HF_c := Lib.hid hF
   clear hC hF
   generalize w8'.heap.size = b_c at *
   clear e1 e2 e3 hX
   go_wp2
   go_loopw [42] (fun i wr => ∃ j : Nat, j ≤ up ∧ i = .int .i64 (j : Int) ∧ (Box wr w.heap.size #[.string ⟨#[]⟩, .string ⟨#[]⟩]) ∧ (Fre wr w.heap.size) ∧ (Box wr b_out #[.string (showN (sideS bets up down kk)), .string (showD (sideS bets up down kk))]) ∧ (Fre wr b_out) ∧ (Box wr b_win #[.string (showN (winR bets (kk + 1))), .string (showD (winR bets (kk + 1)))]) ∧ (Fre wr b_win) ∧ (Box wr b_los #[.string (showN (loseR bets (kk + 1))), .string (showD (loseR bets (kk + 1)))]) ∧ (Fre wr b_los) ∧ (Box wr b_c #[.string (showN (winR bets (kk + 1) ^ j)), .string (showD (winR bets (kk + 1) ^ j))]) ∧ (Fre wr b_c) ∧ (Below w.heap.size w wr)) (fun i _ => up - (intOf i).toNat)
   case atStart => exact ⟨0, by omega, rfl, HB_res.out, HF_res.out, HB_out.out, HF_out.out, HB_win.out, HF_win.out, HB_los.out, HF_los.out, (by rw [Rat.pow_zero]; exact HB_c.out), HF_c.out, HW.out⟩
   case round =>
    obtain ⟨j, hj, rfl, q_HB_res, q_HF_res, q_HB_out, q_HF_out, q_HB_win, q_HF_win, q_HB_los, q_HF_los, q_HB_c, q_HF_c, q_HW⟩ := hrel
    clear HB_res HF_res HB_out HF_out HB_win HF_win HB_los HF_los HB_c HF_c HW
    have HB_res := Lib.hid q_HB_res
    have HF_res := Lib.hid q_HF_res
    have HB_out := Lib.hid q_HB_out
    have HF_out := Lib.hid q_HF_out
    have HB_win := Lib.hid q_HB_win
    have HF_win := Lib.hid q_HF_win
    have HB_los := Lib.hid q_HB_los
    have HF_los := Lib.hid q_HF_los
    have HB_c := Lib.hid q_HB_c
    have HF_c := Lib.hid q_HF_c
    have HW := Lib.hid q_HW
    clear q_HB_res q_HF_res q_HB_out q_HF_out q_HB_win q_HF_win q_HB_los q_HF_los q_HB_c q_HF_c q_HW
    generalize hY : wr = Y at *
    clear hY
    by_cases hjt : j < up
    ·have c_c_0 : Y.cell? ⟨b_c, 0, none⟩ = some (.string (showN (winR bets (kk + 1) ^ j))) := HB_c.out.2 0
     have c_c_1 : Y.cell? ⟨b_c, 1, none⟩ = some (.string (showD (winR bets (kk + 1) ^ j))) := HB_c.out.2 1
     have c_win_0 : Y.cell? ⟨b_win, 0, none⟩ = some (.string (showN (winR bets (kk + 1)))) := HB_win.out.2 0
     have c_win_1 : Y.cell? ⟨b_win, 1, none⟩ = some (.string (showD (winR bets (kk + 1)))) := HB_win.out.2 1
     go_wp2_with fail
     refine (times_is (winR bets (kk + 1) ^ j) (winR bets (kk + 1)) (winR bets (kk + 1) ^ (j + 1)) (Rat.pow_succ _ _).symm (HFw.out (kk + 1) j (by omega) hj) ((win_ln h5 (show kk + 1 ≤ bets by omega)).fits (by omega) (by omega)) (HFw.out (kk + 1) (j + 1) (by omega) (by omega)) Y (HT0.out.ext HW.out)).mono ?_
     rintro e w10' ⟨rfl, hbz⟩
     replace HF_res := Lib.hid (HF_res.out.ext HB_res.out hbz)
     replace HB_res := Lib.hid (HB_res.out.ext hbz)
     replace HF_out := Lib.hid (HF_out.out.ext HB_out.out hbz)
     replace HB_out := Lib.hid (HB_out.out.ext hbz)
     replace HF_win := Lib.hid (HF_win.out.ext HB_win.out hbz)
     replace HB_win := Lib.hid (HB_win.out.ext hbz)
     replace HF_los := Lib.hid (HF_los.out.ext HB_los.out hbz)
     replace HB_los := Lib.hid (HB_los.out.ext hbz)
     replace HF_c := Lib.hid (HF_c.out.ext HB_c.out hbz)
     replace HB_c := Lib.hid (HB_c.out.ext hbz)
     replace HW := Lib.hid (ext_trans HW.out hbz)
     clear c_c_0 c_c_1 c_win_0 c_win_1
     clear hbz
     have c_c_0 : w10'.cell? ⟨b_c, 0, none⟩ = some (.string (showN (winR bets (kk + 1) ^ j))) := HB_c.out.2 0
     have c_c_1 : w10'.cell? ⟨b_c, 1, none⟩ = some (.string (showD (winR bets (kk + 1) ^ j))) := HB_c.out.2 1
     have f_c_0 := HF_c.out 0
     have f_c_1 := HF_c.out 1
     have nB_res : Hid (Box ((w10'.setCell ⟨b_c, 0, none⟩ (.string (showN (winR bets (kk + 1) ^ (j + 1))))).setCell ⟨b_c, 1, none⟩ (.string (showD (winR bets (kk + 1) ^ (j + 1))))) w.heap.size #[.string ⟨#[]⟩, .string ⟨#[]⟩]) := Lib.hid (boxn_other (boxn_other (HB_res.out) (Nat.ne_of_lt lt_res_c) 0 (.string (showN (winR bets (kk + 1) ^ (j + 1))))) (Nat.ne_of_lt lt_res_c) 1 (.string (showD (winR bets (kk + 1) ^ (j + 1)))))
     have nF_res : Hid (Fre ((w10'.setCell ⟨b_c, 0, none⟩ (.string (showN (winR bets (kk + 1) ^ (j + 1))))).setCell ⟨b_c, 1, none⟩ (.string (showD (winR bets (kk + 1) ^ (j + 1))))) w.heap.size) := Lib.hid (fun j => by simp only [World.frozen?_setCell]; exact HF_res.out j)
     have nB_out : Hid (Box ((w10'.setCell ⟨b_c, 0, none⟩ (.string (showN (winR bets (kk + 1) ^ (j + 1))))).setCell ⟨b_c, 1, none⟩ (.string (showD (winR bets (kk + 1) ^ (j + 1))))) b_out #[.string (showN (sideS bets up down kk)), .string (showD (sideS bets up down kk))]) := Lib.hid (boxn_other (boxn_other (HB_out.out) (Nat.ne_of_lt lt_out_c) 0 (.string (showN (winR bets (kk + 1) ^ (j + 1))))) (Nat.ne_of_lt lt_out_c) 1 (.string (showD (winR bets (kk + 1) ^ (j + 1)))))
     have nF_out : Hid (Fre ((w10'.setCell ⟨b_c, 0, none⟩ (.string (showN (winR bets (kk + 1) ^ (j + 1))))).setCell ⟨b_c, 1, none⟩ (.string (showD (winR bets (kk + 1) ^ (j + 1))))) b_out) := Lib.hid (fun j => by simp only [World.frozen?_setCell]; exact HF_out.out j)
     have nB_win : Hid (Box ((w10'.setCell ⟨b_c, 0, none⟩ (.string (showN (winR bets (kk + 1) ^ (j + 1))))).setCell ⟨b_c, 1, none⟩ (.string (showD (winR bets (kk + 1) ^ (j + 1))))) b_win #[.string (showN (winR bets (kk + 1))), .string (showD (winR bets (kk + 1)))]) := Lib.hid (boxn_other (boxn_other (HB_win.out) (Nat.ne_of_lt lt_win_c) 0 (.string (showN (winR bets (kk + 1) ^ (j + 1))))) (Nat.ne_of_lt lt_win_c) 1 (.string (showD (winR bets (kk + 1) ^ (j + 1)))))
     have nF_win : Hid (Fre ((w10'.setCell ⟨b_c, 0, none⟩ (.string (showN (winR bets (kk + 1) ^ (j + 1))))).setCell ⟨b_c, 1, none⟩ (.string (showD (winR bets (kk + 1) ^ (j + 1))))) b_win) := Lib.hid (fun j => by simp only [World.frozen?_setCell]; exact HF_win.out j)
     have nB_los : Hid (Box ((w10'.setCell ⟨b_c, 0, none⟩ (.string (showN (winR bets (kk + 1) ^ (j + 1))))).setCell ⟨b_c, 1, none⟩ (.string (showD (winR bets (kk + 1) ^ (j + 1))))) b_los #[.string (showN (loseR bets (kk + 1))), .string (showD (loseR bets (kk + 1)))]) := Lib.hid (boxn_other (boxn_other (HB_los.out) (Nat.ne_of_lt lt_los_c) 0 (.string (showN (winR bets (kk + 1) ^ (j + 1))))) (Nat.ne_of_lt lt_los_c) 1 (.string (showD (winR bets (kk + 1) ^ (j + 1)))))
     have nF_los : Hid (Fre ((w10'.setCell ⟨b_c, 0, none⟩ (.string (showN (winR bets (kk + 1) ^ (j + 1))))).setCell ⟨b_c, 1, none⟩ (.string (showD (winR bets (kk + 1) ^ (j + 1))))) b_los) := Lib.hid (fun j => by simp only [World.frozen?_setCell]; exact HF_los.out j)
     have nB_c : Hid (Box ((w10'.setCell ⟨b_c, 0, none⟩ (.string (showN (winR bets (kk + 1) ^ (j + 1))))).setCell ⟨b_c, 1, none⟩ (.string (showD (winR bets (kk + 1) ^ (j + 1))))) b_c #[.string (showN (winR bets (kk + 1) ^ (j + 1))), .string (showD (winR bets (kk + 1) ^ (j + 1)))]) := Lib.hid (boxn_cell (boxn_cell (HB_c.out) (j := 0) (by simp) (.string (showN (winR bets (kk + 1) ^ (j + 1))))) (j := 1) (by simp) (.string (showD (winR bets (kk + 1) ^ (j + 1)))))
     have nF_c : Hid (Fre ((w10'.setCell ⟨b_c, 0, none⟩ (.string (showN (winR bets (kk + 1) ^ (j + 1))))).setCell ⟨b_c, 1, none⟩ (.string (showD (winR bets (kk + 1) ^ (j + 1))))) b_c) := Lib.hid (fun j => by simp only [World.frozen?_setCell]; exact HF_c.out j)
     have nW : Hid (Below w.heap.size w ((w10'.setCell ⟨b_c, 0, none⟩ (.string (showN (winR bets (kk + 1) ^ (j + 1))))).setCell ⟨b_c, 1, none⟩ (.string (showD (winR bets (kk + 1) ^ (j + 1)))))) := Lib.hid (((HW.out).setCell (p := ⟨b_c, 0, none⟩) le_c (.string (showN (winR bets (kk + 1) ^ (j + 1))))).setCell (p := ⟨b_c, 1, none⟩) le_c (.string (showD (winR bets (kk + 1) ^ (j + 1)))))
     go_wp2
     go_roundw
     case rel => exact ⟨j + 1, by omega, by go_num, nB_res.out, nF_res.out, nB_out.out, nF_out.out, nB_win.out, nF_win.out, nB_los.out, nF_los.out, nB_c.out, nF_c.out, nW.out⟩
     case measure => simp [intOf]; omega
    ·obtain rfl : up = j := by omega
     clear hj hjt
     go_wp2
     go_loopw [49] (fun i wr => ∃ j : Nat, j ≤ down ∧ i = .int .i64 (j : Int) ∧ (Box wr w.heap.size #[.string ⟨#[]⟩, .string ⟨#[]⟩]) ∧ (Fre wr w.heap.size) ∧ (Box wr b_out #[.string (showN (sideS bets up down kk)), .string (showD (sideS bets up down kk))]) ∧ (Fre wr b_out) ∧ (Box wr b_win #[.string (showN (winR bets (kk + 1))), .string (showD (winR bets (kk + 1)))]) ∧ (Fre wr b_win) ∧ (Box wr b_los #[.string (showN (loseR bets (kk + 1))), .string (showD (loseR bets (kk + 1)))]) ∧ (Fre wr b_los) ∧ (Box wr b_c #[.string (showN (winR bets (kk + 1) ^ up * loseR bets (kk + 1) ^ j)), .string (showD (winR bets (kk + 1) ^ up * loseR bets (kk + 1) ^ j))]) ∧ (Fre wr b_c) ∧ (Below w.heap.size w wr)) (fun i _ => down - (intOf i).toNat)
     case atStart => exact ⟨0, by omega, rfl, HB_res.out, HF_res.out, HB_out.out, HF_out.out, HB_win.out, HF_win.out, HB_los.out, HF_los.out, (by rw [Rat.pow_zero, Rat.mul_one]; exact HB_c.out), HF_c.out, HW.out⟩
     case round =>
      obtain ⟨j, hj, rfl, q_HB_res, q_HF_res, q_HB_out, q_HF_out, q_HB_win, q_HF_win, q_HB_los, q_HF_los, q_HB_c, q_HF_c, q_HW⟩ := hrel
      clear HB_res HF_res HB_out HF_out HB_win HF_win HB_los HF_los HB_c HF_c HW
      have HB_res := Lib.hid q_HB_res
      have HF_res := Lib.hid q_HF_res
      have HB_out := Lib.hid q_HB_out
      have HF_out := Lib.hid q_HF_out
      have HB_win := Lib.hid q_HB_win
      have HF_win := Lib.hid q_HF_win
      have HB_los := Lib.hid q_HB_los
      have HF_los := Lib.hid q_HF_los
      have HB_c := Lib.hid q_HB_c
      have HF_c := Lib.hid q_HF_c
      have HW := Lib.hid q_HW
      clear q_HB_res q_HF_res q_HB_out q_HF_out q_HB_win q_HF_win q_HB_los q_HF_los q_HB_c q_HF_c q_HW
      generalize hY : wr = Y at *
      clear hY
      by_cases hjt : j < down
      ·have c_c_0 : Y.cell? ⟨b_c, 0, none⟩ = some (.string (showN (winR bets (kk + 1) ^ up * loseR bets (kk + 1) ^ j))) := HB_c.out.2 0
       have c_c_1 : Y.cell? ⟨b_c, 1, none⟩ = some (.string (showD (winR bets (kk + 1) ^ up * loseR bets (kk + 1) ^ j))) := HB_c.out.2 1
       have c_los_0 : Y.cell? ⟨b_los, 0, none⟩ = some (.string (showN (loseR bets (kk + 1)))) := HB_los.out.2 0
       have c_los_1 : Y.cell? ⟨b_los, 1, none⟩ = some (.string (showD (loseR bets (kk + 1)))) := HB_los.out.2 1
       go_wp2_with fail
       refine (times_is (winR bets (kk + 1) ^ up * loseR bets (kk + 1) ^ j) (loseR bets (kk + 1)) (winR bets (kk + 1) ^ up * loseR bets (kk + 1) ^ (j + 1)) (by rw [Rat.pow_succ, Rat.mul_assoc]) (HFl.out (kk + 1) j (by omega) hj) ((lose_ln (k := kk + 1) h5).fits (by omega) (by omega)) (HFl.out (kk + 1) (j + 1) (by omega) (by omega)) Y (HT0.out.ext HW.out)).mono ?_
       rintro e w10' ⟨rfl, hbz⟩
       replace HF_res := Lib.hid (HF_res.out.ext HB_res.out hbz)
       replace HB_res := Lib.hid (HB_res.out.ext hbz)
       replace HF_out := Lib.hid (HF_out.out.ext HB_out.out hbz)
       replace HB_out := Lib.hid (HB_out.out.ext hbz)
       replace HF_win := Lib.hid (HF_win.out.ext HB_win.out hbz)
       replace HB_win := Lib.hid (HB_win.out.ext hbz)
       replace HF_los := Lib.hid (HF_los.out.ext HB_los.out hbz)
       replace HB_los := Lib.hid (HB_los.out.ext hbz)
       replace HF_c := Lib.hid (HF_c.out.ext HB_c.out hbz)
       replace HB_c := Lib.hid (HB_c.out.ext hbz)
       replace HW := Lib.hid (ext_trans HW.out hbz)
       clear c_c_0 c_c_1 c_los_0 c_los_1
       clear hbz
       have c_c_0 : w10'.cell? ⟨b_c, 0, none⟩ = some (.string (showN (winR bets (kk + 1) ^ up * loseR bets (kk + 1) ^ j))) := HB_c.out.2 0
       have c_c_1 : w10'.cell? ⟨b_c, 1, none⟩ = some (.string (showD (winR bets (kk + 1) ^ up * loseR bets (kk + 1) ^ j))) := HB_c.out.2 1
       have f_c_0 := HF_c.out 0
       have f_c_1 := HF_c.out 1
       have nB_res : Hid (Box ((w10'.setCell ⟨b_c, 0, none⟩ (.string (showN (winR bets (kk + 1) ^ up * loseR bets (kk + 1) ^ (j + 1))))).setCell ⟨b_c, 1, none⟩ (.string (showD (winR bets (kk + 1) ^ up * loseR bets (kk + 1) ^ (j + 1))))) w.heap.size #[.string ⟨#[]⟩, .string ⟨#[]⟩]) := Lib.hid (boxn_other (boxn_other (HB_res.out) (Nat.ne_of_lt lt_res_c) 0 (.string (showN (winR bets (kk + 1) ^ up * loseR bets (kk + 1) ^ (j + 1))))) (Nat.ne_of_lt lt_res_c) 1 (.string (showD (winR bets (kk + 1) ^ up * loseR bets (kk + 1) ^ (j + 1)))))
       have nF_res : Hid (Fre ((w10'.setCell ⟨b_c, 0, none⟩ (.string (showN (winR bets (kk + 1) ^ up * loseR bets (kk + 1) ^ (j + 1))))).setCell ⟨b_c, 1, none⟩ (.string (showD (winR bets (kk + 1) ^ up * loseR bets (kk + 1) ^ (j + 1))))) w.heap.size) := Lib.hid (fun j => by simp only [World.frozen?_setCell]; exact HF_res.out j)
       have nB_out : Hid (Box ((w10'.setCell ⟨b_c, 0, none⟩ (.string (showN (winR bets (kk + 1) ^ up * loseR bets (kk + 1) ^ (j + 1))))).setCell ⟨b_c, 1, none⟩ (.string (showD (winR bets (kk + 1) ^ up * loseR bets (kk + 1) ^ (j + 1))))) b_out #[.string (showN (sideS bets up down kk)), .string (showD (sideS bets up down kk))]) := Lib.hid (boxn_other (boxn_other (HB_out.out) (Nat.ne_of_lt lt_out_c) 0 (.string (showN (winR bets (kk + 1) ^ up * loseR bets (kk + 1) ^ (j + 1))))) (Nat.ne_of_lt lt_out_c) 1 (.string (showD (winR bets (kk + 1) ^ up * loseR bets (kk + 1) ^ (j + 1)))))
       have nF_out : Hid (Fre ((w10'.setCell ⟨b_c, 0, none⟩ (.string (showN (winR bets (kk + 1) ^ up * loseR bets (kk + 1) ^ (j + 1))))).setCell ⟨b_c, 1, none⟩ (.string (showD (winR bets (kk + 1) ^ up * loseR bets (kk + 1) ^ (j + 1))))) b_out) := Lib.hid (fun j => by simp only [World.frozen?_setCell]; exact HF_out.out j)
       have nB_win : Hid (Box ((w10'.setCell ⟨b_c, 0, none⟩ (.string (showN (winR bets (kk + 1) ^ up * loseR bets (kk + 1) ^ (j + 1))))).setCell ⟨b_c, 1, none⟩ (.string (showD (winR bets (kk + 1) ^ up * loseR bets (kk + 1) ^ (j + 1))))) b_win #[.string (showN (winR bets (kk + 1))), .string (showD (winR bets (kk + 1)))]) := Lib.hid (boxn_other (boxn_other (HB_win.out) (Nat.ne_of_lt lt_win_c) 0 (.string (showN (winR bets (kk + 1) ^ up * loseR bets (kk + 1) ^ (j + 1))))) (Nat.ne_of_lt lt_win_c) 1 (.string (showD (winR bets (kk + 1) ^ up * loseR bets (kk + 1) ^ (j + 1)))))
       have nF_win : Hid (Fre ((w10'.setCell ⟨b_c, 0, none⟩ (.string (showN (winR bets (kk + 1) ^ up * loseR bets (kk + 1) ^ (j + 1))))).setCell ⟨b_c, 1, none⟩ (.string (showD (winR bets (kk + 1) ^ up * loseR bets (kk + 1) ^ (j + 1))))) b_win) := Lib.hid (fun j => by simp only [World.frozen?_setCell]; exact HF_win.out j)
       have nB_los : Hid (Box ((w10'.setCell ⟨b_c, 0, none⟩ (.string (showN (winR bets (kk + 1) ^ up * loseR bets (kk + 1) ^ (j + 1))))).setCell ⟨b_c, 1, none⟩ (.string (showD (winR bets (kk + 1) ^ up * loseR bets (kk + 1) ^ (j + 1))))) b_los #[.string (showN (loseR bets (kk + 1))), .string (showD (loseR bets (kk + 1)))]) := Lib.hid (boxn_other (boxn_other (HB_los.out) (Nat.ne_of_lt lt_los_c) 0 (.string (showN (winR bets (kk + 1) ^ up * loseR bets (kk + 1) ^ (j + 1))))) (Nat.ne_of_lt lt_los_c) 1 (.string (showD (winR bets (kk + 1) ^ up * loseR bets (kk + 1) ^ (j + 1)))))
       have nF_los : Hid (Fre ((w10'.setCell ⟨b_c, 0, none⟩ (.string (showN (winR bets (kk + 1) ^ up * loseR bets (kk + 1) ^ (j + 1))))).setCell ⟨b_c, 1, none⟩ (.string (showD (winR bets (kk + 1) ^ up * loseR bets (kk + 1) ^ (j + 1))))) b_los) := Lib.hid (fun j => by simp only [World.frozen?_setCell]; exact HF_los.out j)
       have nB_c : Hid (Box ((w10'.setCell ⟨b_c, 0, none⟩ (.string (showN (winR bets (kk + 1) ^ up * loseR bets (kk + 1) ^ (j + 1))))).setCell ⟨b_c, 1, none⟩ (.string (showD (winR bets (kk + 1) ^ up * loseR bets (kk + 1) ^ (j + 1))))) b_c #[.string (showN (winR bets (kk + 1) ^ up * loseR bets (kk + 1) ^ (j + 1))), .string (showD (winR bets (kk + 1) ^ up * loseR bets (kk + 1) ^ (j + 1)))]) := Lib.hid (boxn_cell (boxn_cell (HB_c.out) (j := 0) (by simp) (.string (showN (winR bets (kk + 1) ^ up * loseR bets (kk + 1) ^ (j + 1))))) (j := 1) (by simp) (.string (showD (winR bets (kk + 1) ^ up * loseR bets (kk + 1) ^ (j + 1)))))
       have nF_c : Hid (Fre ((w10'.setCell ⟨b_c, 0, none⟩ (.string (showN (winR bets (kk + 1) ^ up * loseR bets (kk + 1) ^ (j + 1))))).setCell ⟨b_c, 1, none⟩ (.string (showD (winR bets (kk + 1) ^ up * loseR bets (kk + 1) ^ (j + 1))))) b_c) := Lib.hid (fun j => by simp only [World.frozen?_setCell]; exact HF_c.out j)
       have nW : Hid (Below w.heap.size w ((w10'.setCell ⟨b_c, 0, none⟩ (.string (showN (winR bets (kk + 1) ^ up * loseR bets (kk + 1) ^ (j + 1))))).setCell ⟨b_c, 1, none⟩ (.string (showD (winR bets (kk + 1) ^ up * loseR bets (kk + 1) ^ (j + 1)))))) := Lib.hid (((HW.out).setCell (p := ⟨b_c, 0, none⟩) le_c (.string (showN (winR bets (kk + 1) ^ up * loseR bets (kk + 1) ^ (j + 1))))).setCell (p := ⟨b_c, 1, none⟩) le_c (.string (showD (winR bets (kk + 1) ^ up * loseR bets (kk + 1) ^ (j + 1)))))
       go_wp2
       go_roundw
       case rel => exact ⟨j + 1, by omega, by go_num, nB_res.out, nF_res.out, nB_out.out, nF_out.out, nB_win.out, nF_win.out, nB_los.out, nF_los.out, nB_c.out, nF_c.out, nW.out⟩
       case measure => simp [intOf]; omega
      ·obtain rfl : down = j := by omega
       clear hj hjt
       have c_out_0 : Y.cell? ⟨b_out, 0, none⟩ = some (.string (showN (sideS bets up down kk))) := HB_out.out.2 0
       have c_out_1 : Y.cell? ⟨b_out, 1, none⟩ = some (.string (showD (sideS bets up down kk))) := HB_out.out.2 1
       have c_c_0 : Y.cell? ⟨b_c, 0, none⟩ = some (.string (showN (winR bets (kk + 1) ^ up * loseR bets (kk + 1) ^ down))) := HB_c.out.2 0
       have c_c_1 : Y.cell? ⟨b_c, 1, none⟩ = some (.string (showD (winR bets (kk + 1) ^ up * loseR bets (kk + 1) ^ down))) := HB_c.out.2 1
       go_wp2_with fail
       refine (plus_is (sideS bets up down kk) (winR bets (kk + 1) ^ up * loseR bets (kk + 1) ^ down) (sideS bets up down (kk + 1)) rfl (HFs.out kk (by omega)) (HFl.out (kk + 1) down (by omega) (by omega)) (HFs.out (kk + 1) (by omega)) Y (HT0.out.ext HW.out)).mono ?_
       rintro e w10' ⟨rfl, hbz⟩
       replace HF_res := Lib.hid (HF_res.out.ext HB_res.out hbz)
       replace HB_res := Lib.hid (HB_res.out.ext hbz)
       replace HF_out := Lib.hid (HF_out.out.ext HB_out.out hbz)
       replace HB_out := Lib.hid (HB_out.out.ext hbz)
       replace HF_win := Lib.hid (HF_win.out.ext HB_win.out hbz)
       replace HB_win := Lib.hid (HB_win.out.ext hbz)
       replace HF_los := Lib.hid (HF_los.out.ext HB_los.out hbz)
       replace HB_los := Lib.hid (HB_los.out.ext hbz)
       replace HF_c := Lib.hid (HF_c.out.ext HB_c.out hbz)
       replace HB_c := Lib.hid (HB_c.out.ext hbz)
       replace HW := Lib.hid (ext_trans HW.out hbz)
       clear c_out_0 c_out_1 c_c_0 c_c_1
       clear hbz
       have c_out_0 : w10'.cell? ⟨b_out, 0, none⟩ = some (.string (showN (sideS bets up down kk))) := HB_out.out.2 0
       have c_out_1 : w10'.cell? ⟨b_out, 1, none⟩ = some (.string (showD (sideS bets up down kk))) := HB_out.out.2 1
       have f_out_0 := HF_out.out 0
       have f_out_1 := HF_out.out 1
       have nB_res : Hid (Box ((w10'.setCell ⟨b_out, 0, none⟩ (.string (showN (sideS bets up down (kk + 1))))).setCell ⟨b_out, 1, none⟩ (.string (showD (sideS bets up down (kk + 1))))) w.heap.size #[.string ⟨#[]⟩, .string ⟨#[]⟩]) := Lib.hid (boxn_other (boxn_other (HB_res.out) (Nat.ne_of_lt lt_res_out) 0 (.string (showN (sideS bets up down (kk + 1))))) (Nat.ne_of_lt lt_res_out) 1 (.string (showD (sideS bets up down (kk + 1)))))
       have nF_res : Hid (Fre ((w10'.setCell ⟨b_out, 0, none⟩ (.string (showN (sideS bets up down (kk + 1))))).setCell ⟨b_out, 1, none⟩ (.string (showD (sideS bets up down (kk + 1))))) w.heap.size) := Lib.hid (fun j => by simp only [World.frozen?_setCell]; exact HF_res.out j)
       have nB_out : Hid (Box ((w10'.setCell ⟨b_out, 0, none⟩ (.string (showN (sideS bets up down (kk + 1))))).setCell ⟨b_out, 1, none⟩ (.string (showD (sideS bets up down (kk + 1))))) b_out #[.string (showN (sideS bets up down (kk + 1))), .string (showD (sideS bets up down (kk + 1)))]) := Lib.hid (boxn_cell (boxn_cell (HB_out.out) (j := 0) (by simp) (.string (showN (sideS bets up down (kk + 1))))) (j := 1) (by simp) (.string (showD (sideS bets up down (kk + 1)))))
       have nF_out : Hid (Fre ((w10'.setCell ⟨b_out, 0, none⟩ (.string (showN (sideS bets up down (kk + 1))))).setCell ⟨b_out, 1, none⟩ (.string (showD (sideS bets up down (kk + 1))))) b_out) := Lib.hid (fun j => by simp only [World.frozen?_setCell]; exact HF_out.out j)
       have nB_win : Hid (Box ((w10'.setCell ⟨b_out, 0, none⟩ (.string (showN (sideS bets up down (kk + 1))))).setCell ⟨b_out, 1, none⟩ (.string (showD (sideS bets up down (kk + 1))))) b_win #[.string (showN (winR bets (kk + 1))), .string (showD (winR bets (kk + 1)))]) := Lib.hid (boxn_other (boxn_other (HB_win.out) (Nat.ne_of_gt lt_out_win) 0 (.string (showN (sideS bets up down (kk + 1))))) (Nat.ne_of_gt lt_out_win) 1 (.string (showD (sideS bets up down (kk + 1)))))
       have nF_win : Hid (Fre ((w10'.setCell ⟨b_out, 0, none⟩ (.string (showN (sideS bets up down (kk + 1))))).setCell ⟨b_out, 1, none⟩ (.string (showD (sideS bets up down (kk + 1))))) b_win) := Lib.hid (fun j => by simp only [World.frozen?_setCell]; exact HF_win.out j)
       have nB_los : Hid (Box ((w10'.setCell ⟨b_out, 0, none⟩ (.string (showN (sideS bets up down (kk + 1))))).setCell ⟨b_out, 1, none⟩ (.string (showD (sideS bets up down (kk + 1))))) b_los #[.string (showN (loseR bets (kk + 1))), .string (showD (loseR bets (kk + 1)))]) := Lib.hid (boxn_other (boxn_other (HB_los.out) (Nat.ne_of_gt lt_out_los) 0 (.string (showN (sideS bets up down (kk + 1))))) (Nat.ne_of_gt lt_out_los) 1 (.string (showD (sideS bets up down (kk + 1)))))
       have nF_los : Hid (Fre ((w10'.setCell ⟨b_out, 0, none⟩ (.string (showN (sideS bets up down (kk + 1))))).setCell ⟨b_out, 1, none⟩ (.string (showD (sideS bets up down (kk + 1))))) b_los) := Lib.hid (fun j => by simp only [World.frozen?_setCell]; exact HF_los.out j)
       have nB_c : Hid (Box ((w10'.setCell ⟨b_out, 0, none⟩ (.string (showN (sideS bets up down (kk + 1))))).setCell ⟨b_out, 1, none⟩ (.string (showD (sideS bets up down (kk + 1))))) b_c #[.string (showN (winR bets (kk + 1) ^ up * loseR bets (kk + 1) ^ down)), .string (showD (winR bets (kk + 1) ^ up * loseR bets (kk + 1) ^ down))]) := Lib.hid (boxn_other (boxn_other (HB_c.out) (Nat.ne_of_gt lt_out_c) 0 (.string (showN (sideS bets up down (kk + 1))))) (Nat.ne_of_gt lt_out_c) 1 (.string (showD (sideS bets up down (kk + 1)))))
       have nF_c : Hid (Fre ((w10'.setCell ⟨b_out, 0, none⟩ (.string (showN (sideS bets up down (kk + 1))))).setCell ⟨b_out, 1, none⟩ (.string (showD (sideS bets up down (kk + 1))))) b_c) := Lib.hid (fun j => by simp only [World.frozen?_setCell]; exact HF_c.out j)
       have nW : Hid (Below w.heap.size w ((w10'.setCell ⟨b_out, 0, none⟩ (.string (showN (sideS bets up down (kk + 1))))).setCell ⟨b_out, 1, none⟩ (.string (showD (sideS bets up down (kk + 1)))))) := Lib.hid (((HW.out).setCell (p := ⟨b_out, 0, none⟩) le_out (.string (showN (sideS bets up down (kk + 1))))).setCell (p := ⟨b_out, 1, none⟩) le_out (.string (showD (sideS bets up down (kk + 1)))))
       have e4 : IntKind.i64.wrap ((kk : Int) + 1 + 1) = (kk : Int) + 1 + 1 := IntWalk.i64_in _ (by omega)
       go_wp2
       go_roundw
       case rel => exact ⟨kk + 1, by omega, by go_num, nB_res.out, nF_res.out, nB_out.out, nF_out.out, nW.out⟩
       case measure => simp [intOf]; omega
  ·have hkb : kk = bets := by omega
   subst hkb
   clear hlt hX
   go_upto_region 17 with (fail)
   have c_out_0 : X.cell? ⟨b_out, 0, none⟩ = some (.string (showN (sideS kk up down kk))) := HB_out.out.2 0
   have c_out_1 : X.cell? ⟨b_out, 1, none⟩ = some (.string (showD (sideS kk up down kk))) := HB_out.out.2 1
   refine Grow.wp_region_grow 4 [TP.eq (rtV (sideS kk up down kk)), TP.eq (.int .i64 (kk : Int)), TP.eq (rtV ((kk : Nat) : Rat)), TP.eq (rtV (sideR kk up down))] [[], [], [1], [0, 2]] (by kernel_rfl) (by kernel_rfl) ⟨?o0z, ?o1z, ?o2z, ?o3z, trivial⟩ ?_
   case o0z =>
    intro w' hb
    have c_out_0' := zzc hb c_out_0
    have c_out_1' := zzc hb c_out_1
    show wpList _ _ _ _ _ _
    go_wp2
    exact ⟨rfl, Below.refl _ _, rfl⟩
   case o1z =>
    intro w' hb
    show wpList _ _ _ _ _ _
    go_wp2
    exact ⟨rfl, Below.refl _ _, rfl⟩
   case o2z =>
    intro w' hb v1 hv1
    obtain rfl : v1 = _ := hv1
    show wpList _ _ _ _ _ _
    simp only [Grow.dstOf, zz1, zz2, zz3, zz4, Act.put, zz5, zz6, zz7]
    go_wp2_with fail
    refine (whole_is _ kk rfl (by omega) w' (HT0.out.ext (ext_trans HW.out hb))).mono ?_
    rintro e wz ⟨rfl, hbz⟩
    go_wp2
    exact ⟨rfl, hbz, rfl⟩
   case o3z =>
    intro w' hb v1 hv1 v2 hv2
    obtain rfl : v1 = _ := hv1
    obtain rfl : v2 = _ := hv2
    show wpList _ _ _ _ _ _
    simp only [Grow.dstOf, zz1, zz2, zz3, zz4, Act.put, zz5, zz6, zz7]
    go_wp2_with fail
    refine (over_is (sideS kk up down kk) ((kk : Nat) : Rat) (sideR kk up down) rfl (HFs.out kk (by omega)) ((Ln.nat (n := kk) (a := 1) (by omega)).fits (by omega) (by omega)) (Nm.ne_of_pos (Nm.natCast_pos (by omega))) HFr.out w' (HT0.out.ext (ext_trans HW.out hb))).mono ?_
    rintro e wz ⟨rfl, hbz⟩
    go_wp2
    exact ⟨rfl, hbz, rfl⟩
   intro w4' hbz u0 hu0 u1 hu1 u2 hu2 u3 hu3
   obtain rfl : u3 = _ := hu3
   clear hu0 hu1 hu2
   replace HF_res := Lib.hid (HF_res.out.ext HB_res.out hbz)
   replace HB_res := Lib.hid (HB_res.out.ext hbz)
   replace HF_out := Lib.hid (HF_out.out.ext HB_out.out hbz)
   replace HB_out := Lib.hid (HB_out.out.ext hbz)
   replace HW := Lib.hid (ext_trans HW.out hbz)
   clear c_out_0 c_out_1
   clear hbz
   show wpList _ _ _ _ _ _
   simp only [Act.put, zz5, zz6, zz7]
   have c_res_0 : w4'.cell? ⟨w.heap.size, 0, none⟩ = some (.string ⟨#[]⟩) := HB_res.out.2 0
   have c_res_1 : w4'.cell? ⟨w.heap.size, 1, none⟩ = some (.string ⟨#[]⟩) := HB_res.out.2 1
   have f_res_0 := HF_res.out 0
   have f_res_1 := HF_res.out 1
   have HR := Lib.hid (res2s (.string (showN (sideR kk up down))) (.string (showD (sideR kk up down))) HB_res.out HW.out (show w.heap.size ≤ w.heap.size by omega))
   obtain ⟨hbF, z0, z1⟩ := id HR.out
   clear hbF
   go_wp2
   exact bodyPost_ret (v := rtV (sideR kk up down)) (by simp [results, Tryz.results178, go_sem, z0, z1]) rfl ⟨rfl, HR.out.1⟩
end Nt
end Go.Proofs.YtilolnjbpokdnaaGreatDoor
