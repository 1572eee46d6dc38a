/- Plain: texts cut at a byte; numerals of at most 13 digits, read and written. No program stands in it. Plain: metrics' texts, written and read; what is read is written so, and the other way round. No program stands in it. Comparisons of Go's library: cmp.Compare at ints and strings, strings.Compare, cmp.Or at two ints. The walk of MetricTextsComeBack. Printed by gen_lawmt.py. -/
import Derived.Test.YteaaibpanocgaaaDoorMt01
import Derived.Test.YteaaibpanocgaaaDoorMt00
import Derived.Lib.SplitLaws
import Derived.Lib.AtoiTie
import Derived.Lib.ItoaNum
import Derived.Test.YteaaibpanocgaaaDoorProg
import Derived.Test.YteaaibpanocgaaaDoorMt03
import Derived.Lib.Bytealg
import Derived.Test.YteaaibpanocgaaaDoorShelf
import Derived.Test.YteaaibpanocgaaaDoorMt04
import Derived.Test.YteaaibpanocgaaaDoorMt05
import Derived.Test.YteaaibpanocgaaaDoorMt06
import Derived.Test.YteaaibpanocgaaaDoorMt07
import Derived.Test.YteaaibpanocgaaaDoorMt08
import Derived.Test.YteaaibpanocgaaaDoorMt09
namespace Go.Proofs.YteaaibpanocgaaaDoor
namespace Tx
open _root_.Go.Proofs.YteaaibpanocgaaaDoor.Nm
theorem joinL_cons {c b : UInt8} {x : List UInt8} {y : List (List UInt8)} : joinL c ((b :: x) :: y) = b :: joinL c (x :: y) := by
  cases y <;> rfl
theorem join_cut (c : UInt8) : ∀ l, joinL c (cutL c l) = l
  | [] => rfl
  | b :: r => by
    have ih := join_cut c r
    have hn := cutL_ne c r
    unfold cutL
    by_cases h : b = c
    · rw [if_pos h]
      cases hc : cutL c r with
      | nil => exact absurd hc hn
      | cons x y => rw [hc] at ih; show [] ++ c :: joinL c (x :: y) = _; rw [ih, h]; rfl
    · rw [if_neg h]
      cases hc : cutL c r with
      | nil => exact absurd hc hn
      | cons x y => rw [hc] at ih; show joinL c ((b :: x) :: y) = _; rw [joinL_cons, ih]
theorem itoaS_bytes {v : Int} : ∀ c ∈ itoaS v, c.toNat = 45 ∨ (48 ≤ c.toNat ∧ c.toNat ≤ 57) := by
  unfold itoaS
  split
  · intro c hc
    rcases List.mem_cons.1 hc with rfl | hc
    · exact .inl rfl
    · exact .inr (decS_digs _ c hc)
  · intro c hc
    exact .inr (decS_digs _ c hc)
end Tx
end Go.Proofs.YteaaibpanocgaaaDoor
namespace Go.Proofs.YteaaibpanocgaaaDoor
namespace Tx
open _root_.Go.Proofs.YteaaibpanocgaaaDoor.Nm
theorem kind_back {l : List UInt8} (h : 0 < kindI l) : kindW (kindI l) = l ∧ 1 ≤ kindI l ∧ kindI l ≤ 3 := by
  unfold kindI at h ⊢
  by_cases h0 : l = []
  · rw [if_pos h0] at h; exact absurd h (by decide)
  rw [if_neg h0] at h ⊢
  by_cases h1 : l = [114, 97, 116, 101]
  · rw [if_pos h1] at h ⊢; exact ⟨h1.symm, by decide⟩
  rw [if_neg h1] at h ⊢
  by_cases h2 : l = [99, 111, 117, 110, 116]
  · rw [if_pos h2] at h ⊢; exact ⟨h2.symm, by decide⟩
  rw [if_neg h2] at h ⊢
  by_cases h3 : l = [115, 117, 109]
  · rw [if_pos h3] at h ⊢; exact ⟨h3.symm, by decide⟩
  rw [if_neg h3] at h; exact absurd h (by decide)
theorem kind_of {k : Int} (h : 1 ≤ k ∧ k ≤ 3) : kindI (kindW k) = k := by
  have hk : k = 1 ∨ k = 2 ∨ k = 3 := by omega
  rcases hk with rfl | rfl | rfl <;> decide
theorem itoa_nat {n : Nat} : itoaS (n : Int) = decS n := by
  unfold itoaS
  rw [if_neg (by omega)]
  simp
theorem readM6_is {a k e x y z : List UInt8} {m : Met} (h : readM6 a k e x y z = some m) : wordsM m = [a, k, e, x, y, z] := by
  unfold readM6 at h
  by_cases hq : wordsB a = true ∧ wordsB e = true ∧ 0 < kindI k
  · rw [if_pos hq] at h
    cases hx : natO 13 x with
    | none => rw [hx] at h; cases h
    | some p =>
      cases hy : natO 13 y with
      | none => rw [hx, hy] at h; cases h
      | some q =>
        cases hz : natO 13 z with
        | none => rw [hx, hy, hz] at h; cases h
        | some r =>
          rw [hx, hy, hz] at h
          have h' : some (⟨bm a, kindI k, bm e, p, q, r⟩ : Met) = some m := h
          injection h' with h'
          subst h'
          obtain ⟨p', rfl, hx2, _⟩ := natO_iff.1 hx
          obtain ⟨q', rfl, hy2, _⟩ := natO_iff.1 hy
          obtain ⟨r', rfl, hz2, _⟩ := natO_iff.1 hz
          unfold wordsM
          simp only
          rw [(kind_back hq.2.2).1, itoa_nat, itoa_nat, itoa_nat, ← hx2, ← hy2, ← hz2]
          rfl
  · rw [if_neg hq] at h; cases h
theorem readM_is {w : List (List UInt8)} {m : Met} (h : readMW w = some m) : wordsM m = w := by
  rcases w with _ | ⟨a, _ | ⟨k, _ | ⟨e, _ | ⟨x, _ | ⟨y, _ | ⟨z, _ | ⟨u, r⟩⟩⟩⟩⟩⟩⟩
  · cases h
  · cases h
  · cases h
  · cases h
  · cases h
  · cases h
  · exact readM6_is h
  · cases h
/-- what is read is written so -/
theorem rdLs_back : ∀ {i : Nat} {ps : List (List UInt8)} {l : List Met}, ps ≠ [] → rdLs i ps = .inl l → textM l = joinL 10 ps
  | _, [], _, h, _ => absurd rfl h
  | i, [p], l, _, h => by
    unfold rdLs at h
    by_cases hp : p = []
    · rw [if_pos hp] at h
      injection h with h
      subst h; subst hp; rfl
    · rw [if_neg hp] at h; cases h
  | i, p :: q :: r, l, _, h => by
    unfold rdLs at h
    cases hm : readM p with
    | none => rw [hm] at h; cases h
    | some m =>
      rw [hm] at h
      cases hr : rdLs (i + 1) (q :: r) with
      | inr j => rw [hr] at h; cases h
      | inl l' =>
        rw [hr] at h
        injection h with h
        subst h
        have ih := rdLs_back (by simp) hr
        show lineM m ++ textM l' = p ++ 10 :: joinL 10 (q :: r)
        rw [ih]
        unfold lineM
        have h2 : joinL 32 (wordsM m) = p := by rw [readM_is hm]; exact join_cut 32 p
        rw [h2]
        simp
theorem text_read {t : List UInt8} {l : List Met} (h : rdLs 1 (cutL 10 t) = .inl l) : textM l = t := by
  rw [rdLs_back (cutL_ne 10 t) h]; exact join_cut 10 t
theorem nat_itoa {v : Int} (h : 0 ≤ v ∧ v ≤ 1000000000000) : natO 13 (itoaS v) = some v := by
  obtain ⟨n, rfl⟩ : ∃ n : Nat, v = n := ⟨v.toNat, by omega⟩
  exact natO_iff.2 ⟨n, rfl, itoa_nat, by omega⟩
theorem word_of {l : List UInt8} {c : UInt8} (h : l.all wordC = true) (hc : wordC c = false) : c ∉ l := fun hm => by
  have := (List.all_eq_true.1 h) _ hm
  rw [hc] at this; cases this
theorem itoa_no {c : UInt8} (v : Int) (h1 : c.toNat ≠ 45) (h2 : ¬ (48 ≤ c.toNat ∧ c.toNat ≤ 57)) : c ∉ itoaS v := fun hm => by
  rcases itoaS_bytes _ hm with h | h
  · exact h1 h
  · exact h2 ⟨h.1, h.2⟩
theorem wordsM_free {m : Met} (h : RightM m) (c : UInt8) (hc : c = 32 ∨ c = 10) : ∀ x ∈ wordsM m, c ∉ x := by
  have hs := word_of (c := c) (name_wordsM h.name).2.1 (by rcases hc with rfl | rfl <;> decide)
  have he := word_of (c := c) (name_wordsM h.event).2.1 (by rcases hc with rfl | rfl <;> decide)
  have hi : ∀ v, c ∉ itoaS v := fun v => itoa_no v (by rcases hc with rfl | rfl <;> decide) (by rcases hc with rfl | rfl <;> decide)
  have hk : c ∉ kindW m.kind := by
    have hk : m.kind = 1 ∨ m.kind = 2 ∨ m.kind = 3 := by have := h.kind; omega
    rcases hk with e | e | e <;> rw [e] <;> rcases hc with rfl | rfl <;> decide
  intro x hx
  unfold wordsM at hx
  simp only [List.mem_cons, List.not_mem_nil, or_false] at hx
  rcases hx with rfl | rfl | rfl | rfl | rfl | rfl
  · exact hs
  · exact hk
  · exact he
  · exact hi _
  · exact hi _
  · exact hi _
theorem cut_joinM {c : UInt8} : ∀ {l : List (List UInt8)}, l ≠ [] → (∀ x ∈ l, c ∉ x) → cutL c (joinL c l) = l
  | [], h, _ => absurd rfl h
  | [x], _, h => cutL_none (h x (by simp))
  | x :: y :: r, _, h => by
    show cutL c (x ++ c :: joinL c (y :: r)) = _
    rw [cutL_app (h x (by simp)), cut_joinM (by simp) (fun z hz => h z (List.mem_cons_of_mem _ hz))]
theorem joinM_free {c d : UInt8} (hd : d ≠ c) : ∀ {l : List (List UInt8)}, (∀ x ∈ l, d ∉ x) → d ∉ joinL c l
  | [], _ => by simp [joinL]
  | [x], h => h x (by simp)
  | x :: y :: r, h => by
    show d ∉ x ++ c :: joinL c (y :: r)
    intro hm
    rcases List.mem_append.1 hm with hm | hm
    · exact h x (by simp) hm
    · rcases List.mem_cons.1 hm with e | hm
      · exact hd e
      · exact joinM_free hd (fun z hz => h z (List.mem_cons_of_mem _ hz)) hm
theorem readM_line {m : Met} (h : RightM m) : readM (joinL 32 (wordsM m)) = some m := by
  unfold readM
  rw [cut_joinM (by unfold wordsM; simp) (wordsM_free h 32 (.inl rfl))]
  show readM6 _ _ _ _ _ _ = _
  unfold readM6
  rw [if_pos ⟨(name_wordsM h.name).1, (name_wordsM h.event).1, by rw [kind_of h.kind]; have := h.kind; omega⟩, nat_itoa (by have := h.len; omega), nat_itoa (by have := h.bef; omega), nat_itoa h.cap, kind_of h.kind, bm_data, bm_data]
  rfl
/-- what is written is read so -/
theorem rdLs_text : ∀ {l : List Met} {i : Nat}, (∀ m ∈ l, RightM m) → rdLs i (cutL 10 (textM l)) = .inl l
  | [], i, _ => by
    show rdLs i [[]] = _
    unfold rdLs; rw [if_pos rfl]
  | m :: l, i, h => by
    have hm := h m (by simp)
    have ih := rdLs_text (l := l) (i := i + 1) (fun x hx => h x (by simp [hx]))
    have hf : (10 : UInt8) ∉ joinL 32 (wordsM m) := joinM_free (by decide) (wordsM_free hm 10 (.inr rfl))
    show rdLs i (cutL 10 (lineM m ++ textM l)) = _
    unfold lineM
    rw [List.append_assoc, List.singleton_append, cutL_app hf]
    cases hc : cutL 10 (textM l) with
    | nil => exact absurd hc (cutL_ne _ _)
    | cons q r =>
      rw [hc] at ih
      unfold rdLs
      rw [readM_line hm, ih]
theorem rdT_text {l : List Met} (h : chkM l = 0) : rdT (textM l) = (l, 0, 0) := by
  unfold rdT
  rw [rdLs_text (chkM_all h).2]
  exact if_pos h
theorem rdT_back {t : List UInt8} (h : (rdT t).2.2 = 0) : chkM (rdT t).1 = 0 ∧ textM (rdT t).1 = t := by
  unfold rdT at h ⊢
  cases hr : rdLs 1 (cutL 10 t) with
  | inr i => rw [hr] at h; exact absurd (show (10 : Int) = 0 from h) (by decide)
  | inl l =>
    rw [hr] at h
    by_cases hc : chkM l = 0
    · simp only [if_pos hc]; exact ⟨hc, text_read hr⟩
    · simp only [if_neg hc] at h; exact absurd h hc
theorem rdT_bad {t : List UInt8} (h : (rdT t).2.2 ≠ 0) : (rdT t).1 = [] := by
  unfold rdT at h ⊢
  cases hr : rdLs 1 (cutL 10 t) with
  | inr i => rfl
  | inl l =>
    rw [hr] at h
    by_cases hc : chkM l = 0
    · simp only [if_pos hc] at h; exact absurd rfl h
    · simp only [if_neg hc]
end Tx
end Go.Proofs.YteaaibpanocgaaaDoor
namespace Go.Proofs.YteaaibpanocgaaaDoor
open Go.RowKit

theorem bytes_ext {a b : ByteArray} (h : a.data.toList = b.data.toList) : a = b := by
  cases a with | mk a => cases b with | mk b =>
    simp only [ByteArray.mk.injEq]
    exact Array.toList_inj.1 h
end Go.Proofs.YteaaibpanocgaaaDoor
namespace Go.Proofs.YteaaibpanocgaaaDoor
open Go.RowKit
namespace Tx
open _root_.Go.Proofs.YteaaibpanocgaaaDoor.Nm
open _root_.Go.Proofs.YteaaibpanocgaaaDoor.Nt (RH RH.cell RH.box RH.lt RH.new RH.ext RH.fre RH.set RH.other)
theorem tx_data {l : List Met} (h : chkM l = 0) : (txS l).data.toList = textM l := by unfold txS txM; rw [if_pos h]; rfl
theorem tx_size {l : List Met} (h : chkM l = 0) : (txS l).size ≤ 1048576 := by
 have h1 := text_small h
 rw [← tx_data h, show (txS l).data.toList.length = (txS l).size from Array.length_toList] at h1
 omega
theorem rd_tx {l : List Met} (h : chkM l = 0) : rdT (txS l).data.toList = (l, 0, 0) := by rw [tx_data h]; exact rdT_text h
theorem tx_rd {s : ByteArray} {x : List Met} {i : Int} (h : rdT s.data.toList = (x, i, 0)) : chkM x = 0 ∧ txS x = s := by
 have h1 := rdT_back (t := s.data.toList) (by rw [h])
 rw [h] at h1
 refine ⟨h1.1, bytes_ext ?_⟩
 rw [tx_data h1.1]; exact h1.2
set_option maxRecDepth 100000 in
set_option maxHeartbeats 16000000 in
theorem lawMtb_at (l : List Met) (hok : ∀ m ∈ l, m.ok) (a : Option Addr) (c : Nat) (s : ByteArray) (hs : s.size ≤ 1048576) (w : World) (hl : Sl w (.slice a l.length c) l.length (l.flatMap metL)) (hr : Er w) (ht : Tb w) (hm : Ml w) : Calls Tryd.prog 4 #[.slice a l.length c, .string s] w fun e w' => e = .returned (.bool true) ∧ Below w.heap.size w w' := by
 have HOK := Lib.hid hok
 have HSL := Lib.hid hl
 have HS0 := Lib.hid hs
 have HE0 := Lib.hid hr
 have HT0 := Lib.hid ht
 have HM0 := Lib.hid hm
 have hl63 : l.length ≤ 9223372036854775807 := by obtain ⟨_, _, hv, h1, h2, _⟩ := hl; cases hv; unfold maxLen at h2; omega
 clear hok hl hs hr ht hm
 obtain ⟨f, hf⟩ : ∃ z, chkM l = z := ⟨_, rfl⟩
 obtain ⟨tx, htx⟩ : ∃ z, txS l = z := ⟨_, rfl⟩
 have HF := Lib.hid hf
 have HTX := Lib.hid htx
 clear hf htx
 go_enter Tryd.func4, Tryd.ntmps4
 go_wp2_with fail
 refine (mtText_at l HOK.out a c w HSL.out HT0.out).mono ?_
 rintro e w1 ⟨rfl, hb1⟩
 rw [HF.out, HTX.out]
 by_cases h0 : f = 0
 ·subst h0
  have HTZ : Hid (tx.size ≤ 1048576) := Lib.hid (by rw [← HTX.out]; exact tx_size HF.out)
  have HRS : Hid (rdT tx.data.toList = (l, 0, 0)) := Lib.hid (by rw [← HTX.out]; exact rd_tx HF.out)
  go_wp2_with fail
  refine (mtRead_at tx HTZ.out w1 (HE0.out.ext hb1) (HT0.out.ext hb1) (HM0.out.ext hb1)).mono ?_
  rintro e w2 ⟨v2, rfl, hs2, -, hb2⟩
  rw [HRS.out] at hs2 ⊢
  simp only at hs2
  have HS2 := Lib.hid hs2
  have hb3 := ext_trans hb1 hb2
  obtain ⟨p2, c2, rfl, -⟩ := id hs2
  clear hs2 hb1 hb2
  go_wp2_with fail
  refine (equal_mets l p2 a c2 c w2 HS2.out (HSL.out.ext hb3)).mono ?_
  rintro e w3 ⟨rfl, hb4⟩
  have hb5 := ext_trans hb3 hb4
  clear hb3 hb4
  go_wp2_with fail
  refine (mtRead_at s HS0.out w3 (HE0.out.ext hb5) (HT0.out.ext hb5) (HM0.out.ext hb5)).mono ?_
  rintro e wa ⟨va, rfl, hsa, hoa, hba⟩
  obtain ⟨x, i, f2, hx⟩ : ∃ x i f2, rdT s.data.toList = (x, i, f2) := ⟨_, _, _, rfl⟩
  rw [hx] at hsa hoa ⊢
  simp only at hsa hoa
  have HX := Lib.hid hx
  have HOA := Lib.hid hoa
  have HSA := Lib.hid hsa
  have hbz := ext_trans hb5 hba
  obtain ⟨pa, ca, rfl, -⟩ := id hsa
  clear hx hoa hsa hba
  by_cases h2 : f2 = 0
  ·subst h2
   have HBK := Lib.hid (tx_rd HX.out)
   go_wp2_with fail
   refine (mtText_at x HOA.out pa ca wa HSA.out (HT0.out.ext hbz)).mono ?_
   rintro e wb ⟨rfl, hbb⟩
   rw [HBK.out.1, HBK.out.2]
   have hby := ext_trans hbz hbb
   clear hbz hbb
   go_wp2
   go_ret
   exact ⟨by simp, hby⟩
  ·have hne : (f2 != 0) = true := by simpa using h2
   have hx0 : x = [] := by
    have h9 := rdT_bad (t := s.data.toList) (by rw [HX.out]; exact h2)
    rw [HX.out] at h9
    exact h9
   subst hx0
   clear h2
   go_wp2
   go_ret
   exact ⟨rfl, hbz⟩
 ·have hne : (f == 0) = false := beq_eq_false_iff_ne.2 h0
  clear h0
  go_wp2_with fail
  refine (mtRead_at s HS0.out w1 (HE0.out.ext hb1) (HT0.out.ext hb1) (HM0.out.ext hb1)).mono ?_
  rintro e wa ⟨va, rfl, hsa, hoa, hba⟩
  obtain ⟨x, i, f2, hx⟩ : ∃ x i f2, rdT s.data.toList = (x, i, f2) := ⟨_, _, _, rfl⟩
  rw [hx] at hsa hoa ⊢
  simp only at hsa hoa
  have HX := Lib.hid hx
  have HOA := Lib.hid hoa
  have HSA := Lib.hid hsa
  have hbz := ext_trans hb1 hba
  obtain ⟨pa, ca, rfl, -⟩ := id hsa
  clear hx hoa hsa hba
  by_cases h2 : f2 = 0
  ·subst h2
   have HBK := Lib.hid (tx_rd HX.out)
   go_wp2_with fail
   refine (mtText_at x HOA.out pa ca wa HSA.out (HT0.out.ext hbz)).mono ?_
   rintro e wb ⟨rfl, hbb⟩
   rw [HBK.out.1, HBK.out.2]
   have hby := ext_trans hbz hbb
   clear hbz hbb
   go_wp2
   go_ret
   exact ⟨by simp, hby⟩
  ·have hne : (f2 != 0) = true := by simpa using h2
   have hx0 : x = [] := by
    have h9 := rdT_bad (t := s.data.toList) (by rw [HX.out]; exact h2)
    rw [HX.out] at h9
    exact h9
   subst hx0
   clear h2
   go_wp2
   go_ret
   exact ⟨rfl, hbz⟩
end Tx
end Go.Proofs.YteaaibpanocgaaaDoor
