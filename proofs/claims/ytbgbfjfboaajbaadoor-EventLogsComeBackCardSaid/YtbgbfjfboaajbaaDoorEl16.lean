/- The walk of EventLogsComeBack. Printed by gen_lawlog.py. -/
import Derived.Test.YtbgbfjfboaajbaaDoorEl14
import Derived.Test.YtbgbfjfboaajbaaDoorEl15
namespace Go.Proofs.YtbgbfjfboaajbaaDoor
open Go.RowKit
namespace Tx
open _root_.Go.Proofs.YtbgbfjfboaajbaaDoor.Nm
open _root_.Go.Proofs.YtbgbfjfboaajbaaDoor.Nt (RH RH.cell RH.box RH.lt RH.new RH.ext RH.fre RH.set RH.other)
set_option maxRecDepth 100000 in
set_option maxHeartbeats 16000000 in
theorem lawElb_at (l : List Ev) (hok : ∀ e ∈ l, e.ok) (a : Option Addr) (c : Nat) (w : World) (hl : Sl w (.slice a l.length c) l.length (l.flatMap evL)) (hr : Er w) (ht : Tb w) (hm : Ml w) : Calls Tryd.prog 3 #[.slice a l.length c] w fun e w' => e = .returned (.bool true) ∧ Below w.heap.size w w' := by
 have HOK := Lib.hid hok
 have HSL := Lib.hid hl
 have HE0 := Lib.hid hr
 have HT0 := Lib.hid ht
 have HM0 := Lib.hid hm
 have hl63 : l.length ≤ 9223372036854775807 := by obtain ⟨_, _, hv, h1, h2, _⟩ := hl; cases hv; unfold maxLen at h2; omega
 clear hok hl hr ht hm
 obtain ⟨f, hf⟩ : ∃ z, ltF l = z := ⟨_, rfl⟩
 obtain ⟨tx, htx⟩ : ∃ z, stB (ltT l) = z := ⟨_, rfl⟩
 have HF := Lib.hid hf
 have HTX := Lib.hid htx
 clear hf htx
 go_enter Tryd.func3, Tryd.ntmps3
 go_wp2_with fail
 refine (evText_at l HOK.out a c w HSL.out HT0.out).mono ?_
 rintro e w1 ⟨rfl, hb1⟩
 rw [HF.out, HTX.out]
 by_cases h0 : f = 0
 ·subst h0
  have hg := checkL_good (lt_ok HF.out).1
  have HR := Lib.hid (fun e he => rightE_of (hg.2.2 e he) : ∀ e ∈ l, RightE e)
  have HTE : Hid (tx = stB (textE l)) := Lib.hid (by rw [← HTX.out, (lt_ok HF.out).2.2])
  have HLE := Lib.hid (lt_ok HF.out).2.1
  have hzx : tx.size = (textE l).length := by rw [HTE.out, stB_size]
  have HBK : Hid (∀ (L x : List Ev) (i f : Int), (∀ e, e ∈ L ↔ e ∈ l) → (textE L).length ≤ 3000000 → LogR (textE L) x i f → x = l ∧ i = 0 ∧ f = 0) := Lib.hid (fun L x i f h1 h2 h3 => log_back (lt_ok HF.out).1 h1 h2 h3)
  have HTD : Hid (tx.data.toList = textE l) := Lib.hid (by rw [HTE.out]; rfl)
  have HZ := Lib.hid hzx
  have HZ2 : Hid (tx.size ≤ 3000000) := Lib.hid (by rw [hzx]; exact HLE.out)
  clear hg hzx
  go_wp2_with fail
  refine (after_at tx (Nat.le_trans HZ2.out (by decide)) w1 (HM0.out.ext hb1)).mono ?_
  rintro e w2 ⟨rfl, hpl, hO2, hb2⟩
  have HPF : Hid ((((pcsA tx).reverse.map (·.data.toList)).flatten) = textE l.reverse) := Lib.hid (by rw [HTE.out]; exact rev_pcs HR.out)
  have hpos := pcsA_pos tx
  obtain ⟨P, hP⟩ : ∃ z, pcsA tx = z := ⟨_, rfl⟩
  rw [hP] at hpl hO2 HPF hpos ⊢
  obtain ⟨b2, hb2e⟩ : ∃ z, w1.heap.size = z := ⟨_, rfl⟩
  have hlow : w.heap.size ≤ b2 := by rw [← hb2e]; exact hb1.size
  have hb3 := ext_trans hb1 hb2
  rw [hb2e] at hO2 ⊢
  clear hP hb2e hb1 hb2
  go_wp2_with fail
  refine (Rs.reverse_at P hpos (by omega) b2 P.length w2 hO2).mono ?_
  rintro e w3 ⟨rfl, hO3, hg3⟩
  have hb4 : Below w.heap.size w w3 := hb3.grown hg3 hb3.size (fun q hq => by cases hq; exact hlow)
  have hprl : P.reverse.length = P.length := List.length_reverse
  clear hO2 hg3 hb3
  go_wp2_with fail
  refine (evReadLog_at tx w3 (HE0.out.ext hb4) (HT0.out.ext hb4) (HM0.out.ext hb4)).mono ?_
  rintro e w4 ⟨x, p1, c1, i1, g1, rfl, hs1, -, hR1, hb5⟩
  rw [HTD.out] at hR1
  obtain ⟨rfl, rfl, rfl⟩ := HBK.out l x i1 g1 (fun _ => Iff.rfl) HLE.out hR1
  have hO4 := OwnB_ext hO3 hb5
  have hb6 := ext_trans hb4 hb5
  have HS1 := Lib.hid hs1
  clear hR1 hs1 hO3 hb4 hb5
  have HJ := Lib.hid (joinN_at P.reverse b2 P.length w4 hO4 (by omega) (by omega) (by rw [HPF.out, textE_rev_len]; have := HLE.out; omega))
  rw [HPF.out, hprl] at HJ
  clear hO4
  go_wp2_with fail
  refine HJ.out.mono ?_
  rintro e w5 ⟨rfl, hb7⟩
  have hb8 := ext_trans hb6 hb7
  have HS2 := Lib.hid (HS1.out.ext hb7)
  clear hb6 hb7 HJ
  go_wp2_with fail
  refine (evReadLog_at (stB (textE x.reverse)) w5 (HE0.out.ext hb8) (HT0.out.ext hb8) (HM0.out.ext hb8)).mono ?_
  rintro e w6 ⟨y, p2, c2, i2, g2, rfl, hs2, -, hR2, hb9⟩
  rw [stB_list] at hR2
  obtain ⟨hy, hi2, hg2⟩ := HBK.out x.reverse y i2 g2 (fun e => List.mem_reverse) (by rw [textE_rev_len]; exact HLE.out) hR2
  subst hi2; subst hg2
  rw [hy] at hs2 ⊢
  have hb10 := ext_trans hb8 hb9
  have HS3 := Lib.hid (HS2.out.ext hb9)
  have HS4 := Lib.hid hs2
  clear hR2 hs2 hb8 hb9 hy
  by_cases hlong : 1500000 < tx.size
  ·have hlong' : (1500000 : Int) < (tx.size : Int) := by omega
   clear hlong
   go_wp2_with fail
   refine (equal_events x p1 a c1 c w6 HS3.out (HSL.out.ext hb10)).mono ?_
   rintro e w7 ⟨rfl, hb11⟩
   have hb12 := ext_trans hb10 hb11
   have HS5 := Lib.hid (HS4.out.ext hb11)
   clear hb10 hb11
   go_wp2_with fail
   refine (equal_events x p2 a c2 c w7 HS5.out (HSL.out.ext hb12)).mono ?_
   rintro e w8 ⟨rfl, hb13⟩
   have hb14 := ext_trans hb12 hb13
   go_wp2
   go_ret
   exact ⟨by simp, hb14⟩
  ·have hlong' : ¬ (1500000 : Int) < (tx.size : Int) := by omega
   have hz2 : (tx ++ tx).size = tx.size + tx.size := ByteArray.size_append
   obtain ⟨t2, ht2⟩ : ∃ z, tx ++ tx = z := ⟨_, rfl⟩
   have HT2 : Hid (t2.data.toList = textE (x ++ x)) := Lib.hid (by rw [← ht2, textE_app, ← HTD.out]; simp)
   have HL2 : Hid ((textE (x ++ x)).length ≤ 3000000) := Lib.hid (by rw [textE_app, List.length_append, ← HZ.out]; omega)
   have hzz : tx.size ≤ 1500000 := by omega
   clear hlong hz2
   rw [← ht2] at HT2
   clear ht2 t2
   go_wp2_with fail
   refine (evReadLog_at (tx ++ tx) w6 (HE0.out.ext hb10) (HT0.out.ext hb10) (HM0.out.ext hb10)).mono ?_
   rintro e w7 ⟨z, p3, c3, i3, g3, rfl, hs3, -, hR3, hb11⟩
   rw [HT2.out] at hR3
   obtain ⟨hz, hi3, hg3⟩ := HBK.out (x ++ x) z i3 g3 (fun e => by simp) HL2.out hR3
   subst hi3; subst hg3
   rw [hz] at hs3 ⊢
   have hb12 := ext_trans hb10 hb11
   have HS5 := Lib.hid (HS3.out.ext hb11)
   have HS6 := Lib.hid (HS4.out.ext hb11)
   have HS7 := Lib.hid hs3
   clear hR3 hs3 hb10 hb11 hz
   go_wp2_with fail
   refine (equal_events x p1 a c1 c w7 HS5.out (HSL.out.ext hb12)).mono ?_
   rintro e w8 ⟨rfl, hb13⟩
   have hb14 := ext_trans hb12 hb13
   have HS8 := Lib.hid (HS6.out.ext hb13)
   have HS9 := Lib.hid (HS7.out.ext hb13)
   clear hb12 hb13
   go_wp2_with fail
   refine (equal_events x p2 a c2 c w8 HS8.out (HSL.out.ext hb14)).mono ?_
   rintro e w9 ⟨rfl, hb15⟩
   have hb16 := ext_trans hb14 hb15
   have HSa := Lib.hid (HS9.out.ext hb15)
   clear hb14 hb15
   go_wp2_with fail
   refine (equal_events x p3 a c3 c w9 HSa.out (HSL.out.ext hb16)).mono ?_
   rintro e w10 ⟨rfl, hb17⟩
   have hb18 := ext_trans hb16 hb17
   go_wp2
   go_ret
   exact ⟨by simp, hb18⟩
 ·have hne : (f != 0) = true := by simpa using h0
  obtain rfl : tx = ⟨#[]⟩ := by rw [← HTX.out]; unfold ltT; rw [if_neg (by rw [HF.out]; exact h0)]; rfl
  clear h0
  go_wp2
  go_ret
  exact ⟨by simp, hb1⟩
end Tx
end Go.Proofs.YtbgbfjfboaajbaaDoor
