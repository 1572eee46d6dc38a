/- Numbers in an event's text: number of package event; Number and amount of the reference. Printed by gen_evn.py. -/
import Derived.Test.YtigjkcbpbjefaaaDoorEv02
import Derived.Test.YtigjkcbpbjefaaaDoorEv01
import Derived.Test.YtigjkcbpbjefaaaDoorEv03
namespace Go.Proofs.YtigjkcbpbjefaaaDoor
open Go.RowKit
namespace Tx
open _root_.Go.Proofs.YtigjkcbpbjefaaaDoor.Nm
open _root_.Go.Proofs.YtigjkcbpbjefaaaDoor.Nt (RH RH.cell RH.box RH.lt RH.new RH.ext RH.fre RH.set RH.other)
/-- strconv's two errors are errors -/
def Er (w : World) : Prop := (∃ tp p, w.cell? ⟨2, 0, none⟩ = some (.iface tp p)) ∧ ∃ tp p, w.cell? ⟨3, 0, none⟩ = some (.iface tp p)
theorem Er.ext {w w' : World} (h : Er w) (hb : Below w.heap.size w w') : Er w' := by
 obtain ⟨⟨t1, p1, h1⟩, ⟨t2, p2, h2⟩⟩ := h
 exact ⟨⟨t1, p1, (hb.cell (World.block_lt_of_cell? _ _ h1)).trans h1⟩, ⟨t2, p2, (hb.cell (World.block_lt_of_cell? _ _ h2)).trans h2⟩⟩
theorem itoaI_at (v : Int) (h1 : -9223372036854775808 ≤ v) (h2 : v ≤ 9223372036854775807) (w : World) (ht : Tb w) : Calls Tryd.prog 21 #[.int .i64 v] w fun e w' => e = .returned (.string (stB (itoaS v))) ∧ Below w.heap.size w w' := by
 refine (Tryd.strconv_Itoa v h1 h2 w ht).mono ?_
 rintro e w' ⟨rfl, k, os, rfl⟩
 exact ⟨by rw [itoa_is]; rfl, Lib.below_grow _ _ (Nat.le_refl _) _ _⟩
/-- Atoi at every text: a number and no error, or an error -/
def AtPost (l : List UInt8) (w : World) (e : Ending) (w' : World) : Prop := ((∃ v, Lib.atoiAll l = .ok v ∧ e = .returned (.tuple #[.int .i64 v, .nilIface])) ∨ ((∀ v, Lib.atoiAll l ≠ .ok v) ∧ ∃ n t N, e = .returned (.tuple #[.int .i64 n, .iface t (.pointer (some ⟨N, 0, none⟩))]))) ∧ Below w.heap.size w w'
theorem atoiAll_at (s : ByteArray) (hs : s.size ≤ 1048576) (w : World) (he : Er w) : Calls Tryd.prog 35 #[.string s] w (AtPost s.data.toList w) := by
 obtain ⟨⟨t1, p1, h1⟩, ⟨t2, p2, h2⟩⟩ := he
 cases h : Lib.atoiAll s.data.toList with
 | ok v =>
  refine (Tryd.strconv_Atoi_ok s (by omega) v h w).mono ?_
  rintro e w' ⟨rfl, hw⟩
  refine ⟨.inl ⟨v, h, rfl⟩, ?_⟩
  rcases hw with rfl | ⟨t, rfl⟩
  ·exact Below.refl _ _
  ·exact Lib.bytesWorld_below _ _ _
 | range =>
  refine (Tryd.strconv_Atoi_range s (by omega) h _ w h2 (.inr ⟨t2, p2, rfl⟩)).mono ?_
  rintro e w' ⟨N, rfl, -, -, hb⟩
  exact ⟨.inr ⟨fun v e => (by rw [h] at e; cases e), _, _, N, rfl⟩, hb⟩
 | _ =>
  refine (Tryd.strconv_Atoi_syntax s (by omega) h _ w h1 (.inr ⟨t1, p1, rfl⟩)).mono ?_
  rintro e w' ⟨N, rfl, -, -, hb⟩
  exact ⟨.inr ⟨fun v e => (by rw [h] at e; cases e), _, _, N, rfl⟩, hb⟩
/-- a number that is read, and whether it is one -/
def NumPost (l : List UInt8) (w : World) (e : Ending) (w' : World) : Prop := ∃ n : Int, e = .returned (.tuple #[.int .i64 n, .bool (numO l).isSome]) ∧ (∀ v, numO l = some v → v = n) ∧ Below w.heap.size w w'
theorem numO_bad {l : List UInt8} (h : ∀ v, Lib.atoiAll l ≠ .ok v) : numO l = none := by
 unfold numO
 cases ha : Lib.atoiAll l with
 | ok v => exact absurd ha (h v)
 | range => rfl
 | _ => rfl
theorem numO_ok {l : List UInt8} {v : Int} (h : Lib.atoiAll l = .ok v) : numO l = if (trimM l).length ≤ 13 ∧ itoaS v = l then some v else none := by
 unfold numO; rw [h]
theorem trimPre_at (s : ByteArray) (_hs : s.size ≤ 1048576) (w : World) : Calls Tryd.prog 36 #[.string s, .string ⟨#[45]⟩] w fun e w' => e = .returned (.string (stB (trimM s.data.toList))) ∧ Below w.heap.size w w' := by
 refine (Tryd.strings_TrimPrefix s ⟨#[45]⟩ w).mono ?_
 rintro e w' ⟨rfl, rfl⟩
 exact ⟨rfl, Below.refl _ _⟩
theorem evNumber_at (s : ByteArray) (hs : s.size ≤ 1048576) (w : World) (he : Er w) (ht : Tb w) : Calls Tryd.prog 23 #[.string s] w (NumPost s.data.toList w) := by
 have HS := Lib.hid hs
 have HE := Lib.hid he
 have HT := Lib.hid ht
 clear hs he ht
 go_enter Tryd.func23, Tryd.ntmps23
 go_wp2_with fail
 refine (atoiAll_at s HS.out w HE.out).mono ?_
 rintro e w1 ⟨hcase, hb1⟩
 have HB := Lib.hid hb1
 clear hb1
 rcases hcase with ⟨v, hv, rfl⟩ | ⟨hbad, n, t, N, rfl⟩
 ·have HN := Lib.hid (numO_ok hv)
  have hbd := Lib.atoiAll_bounds hv
  have HBD := Lib.hid hbd
  clear hv hbd
  go_wp2_with fail
  refine (trimPre_at s HS.out w1).mono ?_
  rintro e w2 ⟨rfl, hb2⟩
  have HB2 := Lib.hid (ext_trans HB.out hb2)
  obtain ⟨tm, htm⟩ : ∃ z, stB (trimM s.data.toList) = z := ⟨_, rfl⟩
  have hts : tm.size = (trimM s.data.toList).length := by rw [← htm, stB_size]
  rw [htm]
  clear htm hb2
  by_cases h13 : (trimM s.data.toList).length ≤ 13
  ·have h13' : (tm.size : Int) ≤ 13 := by omega
   have H13 := Lib.hid h13
   clear hts h13
   go_wp2_with fail
   refine (itoaI_at v HBD.out.1 HBD.out.2 w2 (HT.out.ext HB2.out)).mono ?_
   rintro e w3 ⟨rfl, hb3⟩
   have HB3 := Lib.hid (ext_trans HB2.out hb3)
   clear hb3
   by_cases hE : itoaS v = s.data.toList
   ·have HO : Hid (numO s.data.toList = some v) := Lib.hid (HN.out.trans (if_pos ⟨H13.out, hE⟩))
    rw [hE, stB_self]
    clear hE HN
    go_wp2
    exact bodyPost_ret (v := .tuple #[.int .i64 v, .bool true]) (by simp [results, Tryd.results23, go_sem]) rfl ⟨v, by rw [HO.out]; rfl, fun u hu => (by rw [HO.out] at hu; injection hu with hu; exact hu.symm), HB3.out⟩
   ·have HO : Hid (numO s.data.toList = none) := Lib.hid (HN.out.trans (if_neg fun h => hE h.2))
    obtain ⟨iv, hiv⟩ : ∃ z, stB (itoaS v) = z := ⟨_, rfl⟩
    rw [hiv]
    have hne : ¬ (iv.toList = s.toList) := by
     rw [ByteArray.toList_eq, ByteArray.toList_eq, ← hiv]; exact hE
    have hne2 : (iv.toList == s.toList) = false := by simpa using hne
    have hne3 : ¬ (iv = s) := fun h => hne (by rw [h])
    clear hiv hE HN
    go_wp2
    exact bodyPost_ret (v := .tuple #[.int .i64 v, .bool false]) (by simp [results, Tryd.results23, go_sem]) rfl ⟨v, by rw [HO.out]; rfl, fun u hu => (by rw [HO.out] at hu; cases hu), HB3.out⟩
  ·have h13' : decide ((tm.size : Int) ≤ 13) = false := decide_eq_false (by omega)
   have HO : Hid (numO s.data.toList = none) := Lib.hid (HN.out.trans (if_neg fun h => h13 h.1))
   clear hts h13 HN
   go_wp2
   exact bodyPost_ret (v := .tuple #[.int .i64 v, .bool false]) (by simp [results, Tryd.results23, go_sem]) rfl ⟨v, by rw [HO.out]; rfl, fun u hu => (by rw [HO.out] at hu; cases hu), HB2.out⟩
 ·have HO := Lib.hid (numO_bad hbad)
  clear hbad
  go_wp2
  exact bodyPost_ret (v := .tuple #[.int .i64 n, .bool false]) (by simp [results, Tryd.results23, go_sem]) rfl ⟨n, by rw [HO.out]; rfl, fun u hu => (by rw [HO.out] at hu; cases hu), HB.out⟩
end Tx
end Go.Proofs.YtigjkcbpbjefaaaDoor
