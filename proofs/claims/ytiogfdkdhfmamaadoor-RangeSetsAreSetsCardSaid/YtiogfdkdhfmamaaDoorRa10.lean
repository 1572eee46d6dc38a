/- behind and Within of package value. Printed by gen_wth.py. -/
import Derived.Test.YtiogfdkdhfmamaaDoorRa09
import Derived.Test.YtiogfdkdhfmamaaDoorRa07
namespace Go.Proofs.YtiogfdkdhfmamaaDoor
open Go.RowKit
namespace Rg
open _root_.Go.Proofs.YtiogfdkdhfmamaaDoor.Nt (RH RH.cell RH.box RH.lt RH.new RH.ext RH.fre RH.set RH.other)
open _root_.Go.Proofs.YtiogfdkdhfmamaaDoor.Vl (cmpVer_anti)
/-- is a version behind a place? -/
def bhd (v : Ver) (c : Ct) : Bool := decide (cmpC c ⟨v, false⟩ ≤ 0)
theorem bhd_is {v : Ver} {c : Ct} {z : Int} (h : cmpVer v c.v = z) : bhd v c = (decide (0 < z) || (decide (z = 0) && !c.af)) := by
  have h1 := cmpVer_anti v c.v
  rw [h] at h1
  unfold bhd cmpC
  simp only
  by_cases h0 : z = 0
  · rw [if_neg (by omega)]
    subst h0
    cases c.af <;> simp
  · rw [if_pos (by omega), decide_eq_false h0, Bool.false_and, Bool.or_false]
    exact decide_eq_decide.2 (by omega)
theorem cvS_bhd (s : SA) (v : Ver) : cvS s ⟨v, false⟩ = (bhd v s.fr.c && (s.en || !bhd v s.to.c)) := by
  rw [cvS_is]
  unfold bhd
  congr 2
  have h := linC.anti s.to.c ⟨v, false⟩
  by_cases h1 : cmpC s.to.c ⟨v, false⟩ ≤ 0
  · rw [decide_eq_true h1]; exact decide_eq_false (by omega)
  · rw [decide_eq_false h1]; exact decide_eq_true (by omega)
theorem va_cells {w : World} {b : Nat} {t : TypeId} {s : CA} (h : RH w b (vaL s).toArray t) : w.cell? ⟨b, 0, none⟩ = some (.int .i64 s.c.v.ma) ∧ w.cell? ⟨b, 1, none⟩ = some (.int .i64 s.c.v.mi) ∧ w.cell? ⟨b, 2, none⟩ = some (.int .i64 s.c.v.pa) ∧ w.cell? ⟨b, 3, none⟩ = some (.slice s.a s.c.v.pre.length s.n) :=
  ⟨(h.cell 0).trans rfl, (h.cell 1).trans rfl, (h.cell 2).trans rfl, (h.cell 3).trans rfl⟩
set_option maxRecDepth 100000 in
set_option maxHeartbeats 8000000 in
theorem behind_at (x c : CA) (w : World) (hx : x.ok w) (hc : c.ok w) : Calls Tryd.prog 14 #[.agg (vaL x).toArray, .agg (caL c).toArray] w fun e w' => e = .returned (.bool (bhd x.c.v c.c)) ∧ Below w.heap.size w w' := by
  obtain ⟨z, hz⟩ : ∃ z, cmpVer x.c.v c.c.v = z := ⟨_, rfl⟩
  have HV := Lib.hid (bhd_is hz)
  have HC : Hid (∀ V, Below w.heap.size w V → Calls Tryd.prog 27 #[.agg (vaL x).toArray, .agg (vaL c).toArray] V fun e w' => e = .returned (.int .i64 z) ∧ Below V.heap.size V w') := Lib.hid (fun V hV => by
    subst hz
    exact (compareVersions_g x.c.v c.c.v (vaL x) (vaL c) V (hx.ext hV).rep (hc.ext hV).rep).mono (fun e w' he => ⟨he.1, he.2.1⟩))
  clear hz hx hc
  go_enter Tryd.func14, Tryd.ntmps14
  go_upto_region 1 with (fail)
  refine Tx.wp_vr2 fun W hbW hR1 hR2 => ?_
  generalize hb : w.heap.size = b at *
  have HXB := Lib.hid hb
  clear hb
  have hS : b ≤ W.heap.size := Nat.le_of_lt hR1.lt
  obtain ⟨a0, a1, a2, a3⟩ := va_cells hR1
  obtain ⟨b0, b1, b2, b3, b4⟩ := ca_cells hR2
  go_wp2_with fail
  refine (HC.out _ hbW).mono ?_
  rintro e w1 ⟨rfl, hb1⟩
  have hw1 := hbW.trans (hb1.mono hS)
  replace hR2 := hR2.ext hb1
  clear a0 a1 a2 a3 b0 b1 b2 b3 b4 hb1 hbW HC hS hR1
  obtain ⟨b0, b1, b2, b3, b4⟩ := ca_cells hR2
  clear b0 b1 b2 b3 hR2
  have HP : ∀ r, bhd x.c.v c.c = r → (Ending.returned (.bool r) = Ending.returned (.bool (bhd x.c.v c.c)) ∧ Below w.heap.size w w1) := fun r hr => ⟨by rw [hr], by rw [HXB.out]; exact hw1⟩
  have HP := Lib.hid HP
  clear hw1
  by_cases h1 : 0 < z
  · have HN : Hid (bhd x.c.v c.c = true) := Lib.hid (by rw [HV.out, decide_eq_true h1]; rfl)
    clear HV
    go_wp2
    go_ret
    exact HP.out _ HN.out
  · by_cases h0 : z = 0
    · have HN : Hid (bhd x.c.v c.c = !c.c.af) := Lib.hid (by rw [HV.out, decide_eq_false h1, decide_eq_true h0]; simp)
      subst h0
      clear HV
      go_wp2
      go_ret
      exact HP.out _ HN.out
    · have HN : Hid (bhd x.c.v c.c = false) := Lib.hid (by rw [HV.out, decide_eq_false h1, decide_eq_false h0]; rfl)
      have hne : (z == 0) = false := by simpa using h0
      have hge : ¬ (0 : Int) < z := h1
      clear HV h0
      go_wp2
      go_ret
      exact HP.out _ (by first | exact HN.out | (rw [HN.out]; exact (decide_eq_false (by omega)).symm))
/-- the four cells of a version -/
structure V4 (w : World) (B : Nat) (x : CA) : Prop where
  c : ∀ (j : Nat) (v : Value), (vaL x)[j]? = some v → w.cell? ⟨B, 0 + j, none⟩ = some v
theorem V4.ext {w w' : World} {B : Nat} {x : CA} (h : V4 w B x) (hb : Below w.heap.size w w') : V4 w' B x := ⟨fun j v hj => cell_later hb (h.c j v hj)⟩
theorem V4.four {w : World} {B : Nat} {x : CA} (h : V4 w B x) : w.cell? ⟨B, 0, none⟩ = some (.int .i64 x.c.v.ma) ∧ w.cell? ⟨B, 1, none⟩ = some (.int .i64 x.c.v.mi) ∧ w.cell? ⟨B, 2, none⟩ = some (.int .i64 x.c.v.pa) ∧ w.cell? ⟨B, 3, none⟩ = some (.slice x.a x.c.v.pre.length x.n) :=
  ⟨h.c 0 _ rfl, h.c 1 _ rfl, h.c 2 _ rfl, h.c 3 _ rfl⟩
theorem V4.new (w : World) (x : CA) (t : TypeId) : V4 (w.alloc (.cells (vaL x).toArray t)) w.heap.size x := ⟨fun j v hj => by
  rw [(Nt.RH.new w _ t).cell, List.getElem?_toArray, Nat.zero_add]; exact hj⟩
set_option maxRecDepth 100000 in
set_option maxHeartbeats 8000000 in
theorem within1_at (s : SA) (x : CA) (B : Nat) (w : World) (hs : s.ok w) (hx : x.ok w) (h4 : V4 w B x) : Calls Tryd.prog 13 #[.agg (saL s).toArray, .pointer (some ⟨B, 0, none⟩)] w fun e w' => e = .returned (.bool (cvS s ⟨x.c.v, false⟩)) ∧ Below w.heap.size w w' := by
  obtain ⟨p, hp⟩ : ∃ z, bhd x.c.v s.fr.c = z := ⟨_, rfl⟩
  obtain ⟨q, hq⟩ : ∃ z, bhd x.c.v s.to.c = z := ⟨_, rfl⟩
  obtain ⟨en, hen⟩ : ∃ z, s.en = z := ⟨_, rfl⟩
  have HV : Hid (cvS s ⟨x.c.v, false⟩ = (p && (en || !q))) := Lib.hid (by rw [cvS_bhd, hp, hq, hen])
  have H1 : Hid (∀ V, Below w.heap.size w V → Calls Tryd.prog 14 #[.agg (vaL x).toArray, .agg (caL s.fr).toArray] V fun e w' => e = .returned (.bool p) ∧ Below V.heap.size V w') := Lib.hid (fun V hV => by
    subst hp
    exact behind_at x s.fr V (hx.ext hV) (hs.ext hV).fr)
  have H2 : Hid (∀ V, Below w.heap.size w V → Calls Tryd.prog 14 #[.agg (vaL x).toArray, .agg (caL s.to).toArray] V fun e w' => e = .returned (.bool q) ∧ Below V.heap.size V w') := Lib.hid (fun V hV => by
    subst hq
    exact behind_at x s.to V (hx.ext hV) (hs.ext hV).to)
  have HEN := Lib.hid hen
  clear hp hq hs hx hen
  go_enter Tryd.func13, Tryd.ntmps13
  go_upto_region 1 with (fail)
  refine Nt.wp_row1 fun V hW hR => ?_
  have hB := h4.ext hW
  clear h4
  generalize hb : w.heap.size = b at *
  have HXB := Lib.hid hb
  clear hb
  have hS : b ≤ V.heap.size := Nat.le_of_lt hR.lt
  obtain ⟨a0, a1, a2, a3, a4, a5, a6, a7, a8, a9, a10⟩ := sa_cells hR
  obtain ⟨b0, b1, b2, b3⟩ := hB.four
  go_wp2_with fail
  refine (H1.out _ hW).mono ?_
  rintro e w1 ⟨rfl, hb1⟩
  have hw1 := hW.trans (hb1.mono hS)
  have hS1 : b ≤ w1.heap.size := Nat.le_trans hS hb1.size
  replace hR := hR.ext hb1
  replace hB := hB.ext hb1
  clear a0 a1 a2 a3 a4 a5 a6 a7 a8 a9 a10 b0 b1 b2 b3 hb1 H1 hW hS
  obtain ⟨a0, a1, a2, a3, a4, a5, a6, a7, a8, a9, a10⟩ := sa_cells hR
  obtain ⟨b0, b1, b2, b3⟩ := hB.four
  rw [HEN.out] at a10
  cases p
  · have HN : Hid (cvS s ⟨x.c.v, false⟩ = false) := Lib.hid (by rw [HV.out]; rfl)
    clear HV H2 hR hB
    go_wp2
    go_ret
    exact ⟨congrArg (fun b => Ending.returned (.bool b)) HN.out.symm, by rw [HXB.out]; exact hw1⟩
  · cases en
    · have HN : Hid (cvS s ⟨x.c.v, false⟩ = !q) := Lib.hid (by rw [HV.out]; simp)
      clear HV hR hB
      go_wp2_with fail
      refine (H2.out _ hw1).mono ?_
      rintro e w2 ⟨rfl, hb2⟩
      have hw2 := hw1.trans (hb2.mono hS1)
      clear a0 a1 a2 a3 a4 a5 a6 a7 a8 a9 a10 b0 b1 b2 b3 hw1 hb2
      go_wp2
      go_ret
      exact ⟨congrArg (fun b => Ending.returned (.bool b)) HN.out.symm, by rw [HXB.out]; exact hw2⟩
    · have HN : Hid (cvS s ⟨x.c.v, false⟩ = true) := Lib.hid (by rw [HV.out]; rfl)
      clear HV H2 hR hB
      go_wp2
      go_ret
      exact ⟨congrArg (fun b => Ending.returned (.bool b)) HN.out.symm, by rw [HXB.out]; exact hw1⟩
theorem within_pred (x : CA) (B : Nat) (w0 w : World) (h0 : Below w0.heap.size w0 w) (hx : x.ok w) (h4 : V4 w B x) : PredBelow Tryd.prog 13 #[.pointer (some ⟨B, 0, none⟩)] (fun s : {s : SA // s.ok w0} => .agg (saL s.1).toArray) (fun s => cvS s.1 ⟨x.c.v, false⟩) w := fun W s hb => by
  have h := within1_at s.1 x B W (s.2.ext (ext_trans h0 hb)) (hx.ext hb) (h4.ext hb)
  exact h.mono fun e w' he => ⟨he.1, ext_trans hb he.2⟩
theorem containsW_at (l : List SA) (x : CA) (a : Option Addr) (n : Nat) (w0 w : World) (B : Nat) (h : RA w0 a n l) (hb : Below w0.heap.size w0 w) (hx : x.ok w) (h4 : V4 w B x) :
    Calls Tryd.prog 12 #[.slice a l.length n, .func (.func 13) #[] #[.pointer (some ⟨B, 0, none⟩)]] w fun e w' => e = .returned (.bool (cvL l ⟨x.c.v, false⟩)) ∧ Below w.heap.size w w' := by
  cases l with
  | nil =>
    refine (containsNone a n _ w).mono ?_
    rintro e w' ⟨rfl, rfl⟩
    exact ⟨rfl, Below.refl _ _⟩
  | cons s0 r =>
    obtain ⟨_, b, o, rfl, hlt, _⟩ := h.at (k := 0) (s := s0) rfl
    have hl63 := h.sl.len63
    generalize hl : s0 :: r = l at *
    have hmap : (l.attachWith (fun s => s.ok w0) h.ok).map (·.1) = l := by simp
    have hlen : (l.attachWith (fun s => s.ok w0) h.ok).length = l.length := by simp
    have hc := AnyQ.slices_ContainsFunc Tryd.contStr 11 Tryd.isAgg35 Tryd.sizeOf35 (fun s : {s : SA // s.ok w0} => saL s.1) (fun s => saL_len s.1) (fun s => cvS s.1 ⟨x.c.v, false⟩) 13 #[.pointer (some ⟨B, 0, none⟩)] (enters_of Tryd.func13 (by kernel_rfl) rfl) b o l.length n (l.attachWith (fun s => s.ok w0) h.ok) w
      (within_pred x B w0 w hb hx h4) (by rw [hlen]; exact Nat.le_refl _) hl63 (Nat.lt_of_lt_of_le hlt hb.size) (fun j hj i v hv => by
        have hj' : j < l.length := by rw [← hlen]; exact hj
        rw [getElem!_pos _ j hj] at hv
        have hg : l[j]? = some ((l.attachWith (fun s => s.ok w0) h.ok)[j]).1 := by
          rw [List.getElem?_eq_getElem hj']; simp
        obtain ⟨_, b', o', e, _, hc⟩ := h.at hg
        cases e
        have := hc i v hv
        rw [Nat.add_assoc]
        exact cell_later hb this)
    refine hc.mono ?_
    rintro e w' ⟨rfl, hb'⟩
    refine ⟨?_, hb'⟩
    have e1 : ((l.attachWith (fun s => s.ok w0) h.ok).take l.length).any (fun s => cvS s.1 ⟨x.c.v, false⟩) = cvL l ⟨x.c.v, false⟩ := by
      rw [List.take_of_length_le (by rw [hlen]; exact Nat.le_refl _)]
      unfold cvL
      conv => rhs; rw [← hmap]
      rw [List.any_map]; rfl
    rw [e1]
/-- what is wrong with a version and a range; whether it lies in it -/
def wiF (v : Ver) (l : List RS) : Int := if chkVer v ≠ 0 then chkVer v else chkR l
def wiB (v : Ver) (l : List RS) : Bool := if wiF v l = 0 then inR v l else false
set_option maxRecDepth 100000 in
set_option maxHeartbeats 8000000 in
theorem within_at (l : List SA) (x : CA) (a : Option Addr) (n : Nat) (w : World) (h : RA w a n l) (hx : x.ok w) :
    Calls Tryd.prog 4 #[.agg (vaL x).toArray, .slice a l.length n] w fun e w' => e = .returned (.tuple #[.bool (wiB x.c.v (l.map SA.raw)), .int .i64 (wiF x.c.v (l.map SA.raw))]) ∧ Below w.heap.size w w' := by
  obtain ⟨p, hp⟩ : ∃ z, chkVer x.c.v = z := ⟨_, rfl⟩
  obtain ⟨q, hq⟩ : ∃ z, chkR (l.map SA.raw) = z := ⟨_, rfl⟩
  obtain ⟨r, hr⟩ : ∃ z, cvL l ⟨x.c.v, false⟩ = z := ⟨_, rfl⟩
  have HF : Hid (wiF x.c.v (l.map SA.raw) = if p ≠ 0 then p else q) := Lib.hid (by unfold wiF; rw [hp, hq])
  have HB : Hid (wiB x.c.v (l.map SA.raw) = if (if p ≠ 0 then p else q) = 0 then r else false) := Lib.hid (by
    unfold wiB
    rw [HF.out, ← hr, cvL_is]; rfl)
  have H1 : Hid (∀ V, Below w.heap.size w V → Calls Tryd.prog 10 #[.agg (vaL x).toArray] V fun e w' => e = .returned (.int .i64 p) ∧ Below V.heap.size V w') := Lib.hid (fun V hV => by
    rw [← hp]; exact checkVersion_at x.c.v (vaL x) V (hx.ext hV).rep)
  have H2 : Hid (∀ V, Below w.heap.size w V → Calls Tryd.prog 11 #[.slice a l.length n] V fun e w' => e = .returned (.int .i64 q) ∧ Below V.heap.size V w') := Lib.hid (fun V hV => by
    rw [← hq]; exact checkRange_at l a n V (h.ext hV))
  have H3 : Hid (∀ V B, Below w.heap.size w V → V4 V B x → Calls Tryd.prog 12 #[.slice a l.length n, .func (.func 13) #[] #[.pointer (some ⟨B, 0, none⟩)]] V fun e w' => e = .returned (.bool r) ∧ Below V.heap.size V w') := Lib.hid (fun V B hV h4 => by
    rw [← hr]; exact containsW_at l x a n w V B h hV (hx.ext hV) h4)
  clear hp hq hr h hx
  generalize wiB x.c.v (l.map SA.raw) = rb at *
  generalize wiF x.c.v (l.map SA.raw) = rf at *
  go_enter Tryd.func4, Tryd.ntmps4
  go_upto_region 1 with (fail)
  refine Nt.wp_row1 fun W hbW hR => ?_
  generalize hb : w.heap.size = b at *
  have HXB := Lib.hid hb
  clear hb
  have hS : b ≤ W.heap.size := Nat.le_of_lt hR.lt
  obtain ⟨a0, a1, a2, a3⟩ := va_cells hR
  go_wp2_with fail
  refine (H1.out _ hbW).mono ?_
  rintro e w1 ⟨rfl, hb1⟩
  have hw1 := hbW.trans (hb1.mono hS)
  have hS1 : b ≤ w1.heap.size := Nat.le_trans hS hb1.size
  replace hR := hR.ext hb1
  clear hb1 hbW hS H1 a0 a1 a2 a3
  by_cases h0 : p = 0
  · subst h0
    have HF2 : Hid (rf = q) := Lib.hid (by rw [HF.out, if_neg (by simp)])
    go_wp2_with fail
    refine (H2.out _ hw1).mono ?_
    rintro e w2 ⟨rfl, hb2⟩
    have hw2 := hw1.trans (hb2.mono hS1)
    have hS2 : b ≤ w2.heap.size := Nat.le_trans hS1 hb2.size
    replace hR := hR.ext hb2
    clear hb2 hw1 hS1 H2
    by_cases h1 : q = 0
    · subst h1
      have HB2 : Hid (rb = r) := Lib.hid (by rw [HB.out]; simp)
      have hV4 : V4 w2 b x := ⟨fun j v hj => by rw [Nat.zero_add, hR.cell]; exact (List.getElem?_toArray).trans hj⟩
      go_wp2_with fail
      refine (H3.out _ b hw2 hV4).mono ?_
      rintro e w3 ⟨rfl, hb3⟩
      have hw3 := hw2.trans (hb3.mono hS2)
      clear hb3 hw2 hR hV4 HB HF
      go_wp2
      go_ret2
      exact ⟨(by rw [HB2.out, HF2.out] : Ending.returned (.tuple #[.bool r, .int .i64 0]) = Ending.returned (.tuple #[.bool rb, .int .i64 rf])), by rw [HXB.out]; exact hw3⟩
    · have HB2 : Hid (rb = false) := Lib.hid (by rw [HB.out, if_neg (by rw [if_neg (by simp)]; exact h1)])
      have hne : (q != 0) = true := by simpa using h1
      clear h1 HB HF hR
      go_wp2
      go_ret2
      exact ⟨(by rw [HB2.out, HF2.out] : Ending.returned (.tuple #[.bool false, .int .i64 q]) = Ending.returned (.tuple #[.bool rb, .int .i64 rf])), by rw [HXB.out]; exact hw2⟩
  · have HF2 : Hid (rf = p) := Lib.hid (by rw [HF.out, if_pos h0])
    have HB2 : Hid (rb = false) := Lib.hid (by rw [HB.out, if_neg (by rw [if_pos h0]; exact h0)])
    have hne : (p != 0) = true := by simpa using h0
    clear h0 HB HF hR
    go_wp2
    go_ret2
    exact ⟨(by rw [HB2.out, HF2.out] : Ending.returned (.tuple #[.bool false, .int .i64 p]) = Ending.returned (.tuple #[.bool rb, .int .i64 rf])), by rw [HXB.out]; exact hw1⟩
end Rg
end Go.Proofs.YtiogfdkdhfmamaaDoor
