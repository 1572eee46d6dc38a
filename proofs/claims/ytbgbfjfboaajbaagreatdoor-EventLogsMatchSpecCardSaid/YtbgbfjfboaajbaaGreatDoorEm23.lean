/- slices.Equal at events that are the same. The walk of EventLogsMatchSpec. Printed by gen_lawlog.py. -/
import Derived.Test.YtbgbfjfboaajbaaGreatDoorEm18
import Derived.Test.YtbgbfjfboaajbaaGreatDoorEm16
import Derived.Test.YtbgbfjfboaajbaaGreatDoorEm20
import Derived.Test.YtbgbfjfboaajbaaGreatDoorEm22
namespace Go.Proofs.YtbgbfjfboaajbaaGreatDoor
open Go.RowKit
set_option maxRecDepth 100000 in
set_option maxHeartbeats 8000000 in
theorem equal_events (l : List Ev) (a a' : Option Addr) (c c' : Nat) (w : World) (s1 : Sl w (.slice a l.length c) l.length (l.flatMap evL)) (s2 : Sl w (.slice a' l.length c') l.length (l.flatMap evL)) :
    Calls Tryz.prog 10 #[.slice a l.length c, .slice a' l.length c'] w fun e w' => e = .returned (.bool true) ∧ Below w.heap.size w w' := by
  have hl : l.length ≤ 9223372036854775807 := by obtain ⟨_, _, hv, h1, h2, _⟩ := s1; cases hv; unfold maxLen at h2; omega
  have hne : ((l.length : Int) != (l.length : Int)) = false := by simp
  go_enter Tryz.func10, Tryz.ntmps10
  go_wp2
  go_loopw [13] (fun i wr => ∃ k : Nat, k ≤ l.length ∧ i = .int .i64 k ∧ Below w.heap.size w wr) (fun i _ => l.length - (intOf i).toNat)
  case atStart => exact ⟨0, by omega, rfl, Below.refl _ _⟩
  case round =>
    obtain ⟨k, hk, rfl, hb⟩ := hrel
    by_cases hlt : k < l.length
    · have hgk := List.getElem?_eq_getElem hlt
      generalize l[k] = s at hgk
      obtain ⟨b, o, rfl, hcs⟩ := (s1.ext hb).elem evL_len (by omega : 0 < 8) hgk
      obtain ⟨b', o', rfl, hcs'⟩ := (s2.ext hb).elem evL_len (by omega : 0 < 8) hgk
      have e0 := hcs 0 _ rfl
      have f0 := hcs' 0 _ rfl
      have e1 := hcs 1 _ rfl
      have f1 := hcs' 1 _ rfl
      have e2 := hcs 2 _ rfl
      have f2 := hcs' 2 _ rfl
      have e3 := hcs 3 _ rfl
      have f3 := hcs' 3 _ rfl
      have e4 := hcs 4 _ rfl
      have f4 := hcs' 4 _ rfl
      have e5 := hcs 5 _ rfl
      have f5 := hcs' 5 _ rfl
      have e6 := hcs 6 _ rfl
      have f6 := hcs' 6 _ rfl
      have e7 := hcs 7 _ rfl
      have f7 := hcs' 7 _ rfl
      rw [Nat.add_zero] at e0 f0
      clear hcs hcs' hgk
      have hi0 : (0 : Int) ≤ (k : Int) := Int.natCast_nonneg _
      have hi1 : (k : Int) < (l.length : Int) := by omega
      go_wp2_with fail
      go_quiet (fail)
      go_wp2
      exact ⟨⟨k + 1, by omega, by go_num, below_drewN hb _⟩, by simp [intOf]; omega⟩
    · go_wp2
      go_ret
      exact ⟨rfl, hb⟩

end Go.Proofs.YtbgbfjfboaajbaaGreatDoor
namespace Go.Proofs.YtbgbfjfboaajbaaGreatDoor
open Go.RowKit
namespace Tx
open _root_.Go.Proofs.YtbgbfjfboaajbaaGreatDoor.Nm
open _root_.Go.Proofs.YtbgbfjfboaajbaaGreatDoor.Nt (RH RH.cell RH.box RH.lt RH.new RH.ext RH.fre RH.set RH.other)
set_option maxRecDepth 100000 in
set_option maxHeartbeats 16000000 in
theorem lawElm_at (l : List Ev) (hok : ∀ e ∈ l, e.ok) (a : Option Addr) (c : Nat) (s : ByteArray) (w : World) (hl : Sl w (.slice a l.length c) l.length (l.flatMap evL)) (hr : Er w) (ht : Tb w) (hm : Ml w) : Calls Tryz.prog 3 #[.slice a l.length c, .string s] w fun e w' => e = .returned (.bool true) ∧ Below w.heap.size w w' := by
 have HOK := Lib.hid hok
 have HSL := Lib.hid hl
 have HE0 := Lib.hid hr
 have HT0 := Lib.hid ht
 have HM0 := Lib.hid hm
 have hl63 : l.length ≤ 9223372036854775807 := by obtain ⟨_, _, hv, h1, h2, _⟩ := hl; cases hv; unfold maxLen at h2; omega
 clear hok hl hr ht hm
 obtain ⟨f, hf⟩ : ∃ z, ltF l = z := ⟨_, rfl⟩
 obtain ⟨tx, htx⟩ : ∃ z, stB (ltT l) = z := ⟨_, rfl⟩
 have HF := Lib.hid hf
 have HTX := Lib.hid htx
 clear hf htx
 obtain ⟨fc, hfc⟩ : ∃ z, checkL l = z := ⟨_, rfl⟩
 have HC1 := Lib.hid (fun W9 b9 => (by have h9 := event_CheckLog l HOK.out a c W9 (HSL.out.ext b9); rw [hfc] at h9; exact h9 : Calls Tryz.prog 6 #[.slice a l.length c] W9 fun r w' => r = .returned (.int .i64 fc) ∧ Below W9.heap.size W9 w'))
 have HC2 := Lib.hid (fun W9 b9 => (by have h9 := ref7_CheckLog l HOK.out a c W9 (HSL.out.ext b9); rw [hfc] at h9; exact h9 : Calls Tryz.prog 7 #[.slice a l.length c] W9 fun r w' => r = .returned (.int .i64 fc) ∧ Below W9.heap.size W9 w'))
 clear hfc
 go_enter Tryz.func3, Tryz.ntmps3
 go_wp2_with fail
 refine (evText_at l HOK.out a c w HSL.out HT0.out).mono ?_
 rintro e w1 ⟨rfl, hb1⟩
 rw [HF.out, HTX.out]
 go_wp2_with fail
 refine (refTextE_at l HOK.out a c w1 (HSL.out.ext hb1) (HT0.out.ext hb1)).mono ?_
 rintro e w2 ⟨rfl, hb2⟩
 rw [HF.out, HTX.out]
 have hb3 := ext_trans hb1 hb2
 clear hb1 hb2
 go_wp2_with fail
 refine (HC1.out w2 hb3).mono ?_
 rintro e w3 ⟨rfl, hb2⟩
 have hb4 := ext_trans hb3 hb2
 clear hb2 hb3
 go_wp2_with fail
 refine (HC2.out w3 hb4).mono ?_
 rintro e w4 ⟨rfl, hb2⟩
 replace hb4 := ext_trans hb4 hb2
 clear hb2 HC1 HC2
 go_wp2_with fail
 refine (evReadLog_at s w4 (HE0.out.ext hb4) (HT0.out.ext hb4) (HM0.out.ext hb4)).mono ?_
 rintro e w5 ⟨x, p3, c3, i, f2, rfl, hs3, -, hR1, hb5⟩
 have HR1 := Lib.hid hR1
 have HS3 := Lib.hid hs3
 have hb6 := ext_trans hb4 hb5
 clear hs3 hb4 hb5 hR1
 go_wp2_with fail
 refine (refReadLog_at s w5 (HM0.out.ext hb6)).mono ?_
 rintro e w6 ⟨y, p4, c4, j, g2, rfl, hs4, -, hR2, hb7⟩
 obtain ⟨rfl, rfl, rfl⟩ := HR1.out.unique hR2
 have HS4 := Lib.hid hs4
 have hb8 := ext_trans hb6 hb7
 have HS5 := Lib.hid (HS3.out.ext hb7)
 clear hs4 hb6 hb7 hR2 HR1
 go_wp2_with fail
 refine (equal_events x p3 p4 c3 c4 w6 HS5.out HS4.out).mono ?_
 rintro e w7 ⟨rfl, hb9⟩
 have hb10 := ext_trans hb8 hb9
 go_wp2
 go_ret
 exact ⟨by simp, hb10⟩
end Tx
end Go.Proofs.YtbgbfjfboaajbaaGreatDoor
