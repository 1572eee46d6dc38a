/- Value of the reference's reader behind an error; steps in either state. Printed by gen_rjk.py. Plain: a field's steps one by one. Printed by gen_rjk.py. -/
import Derived.Test.YtbhcfmdogdaodaaGreatDoorRz24
import Derived.Test.YtbhcfmdogdaodaaGreatDoorRz27
import Derived.Test.YtbhcfmdogdaodaaGreatDoorRz18
namespace Go.Proofs.YtbhcfmdogdaodaaGreatDoor
open Go.RowKit
namespace Fd
open _root_.Go.Proofs.YtbhcfmdogdaodaaGreatDoor.Nm
open _root_.Go.Proofs.YtbhcfmdogdaodaaGreatDoor.Nt (RH RH.cell RH.box RH.lt RH.new RH.ext RH.fre RH.set RH.other)
open _root_.Go.Proofs.YtbhcfmdogdaodaaGreatDoor.Nt (RH.row RH.row_other RH.set_other)
open _root_.Go.Proofs.YtbhcfmdogdaodaaGreatDoor.Rw (All2 All2.get All2.length All2.mono All2.append Fresh fresh_own Kept wp_stored)
open _root_.Go.Proofs.YtbhcfmdogdaodaaGreatDoor.Tx (stB)
set_option maxRecDepth 100000 in
set_option maxHeartbeats 8000000 in
theorem jval_err (rb : Nat) (s : ByteArray) (a : Nat) (b f : Int) (w : World) (h : RJ w rb s a b f) (hs : s.size ≤ 1000000) (hb : 0 ≤ b) : Calls Tryz.prog 12 #[.pointer (some ⟨rb, 0, none⟩)] w fun e w' => e = .returned (.agg (vAr 0 0 eB (.slice none 0 0) (.slice none 0 0))) ∧ RJ w' rb s a b f ∧ w.grownBy w' (some rb) := by
  have HR := Lib.hid h
  have HB := Lib.hid hb
  have HRB : Hid (rb < w.heap.size) := Lib.hid h.lt
  clear h hb
  go_enter Tryz.func12, Tryz.ntmps12
  go_upto_region 1 with (fail)
  refine Tx.wp_vr1 fun W hbW hR1 => ?_
  have HT0 := Lib.hid hR1
  have HR0 := Lib.hid (HR.out.ext hbW)
  have HG0 := Lib.hid (gr_below hbW (some rb))
  have HTB : Hid (some w.heap.size ≠ some rb) := Lib.hid (by have := HRB.out; simp; omega)
  clear hR1 hbW HR
  go_wp2_with fail
  refine (jnext_at rb s a b f W HR0.out hs).mono ?_
  rw [nx_bad s a HB.out]
  rintro e W1 ⟨rfl, hR, hg, -⟩
  have HR1 := Lib.hid hR
  have HG1 := Lib.hid (HG0.out.trans hg)
  have HT1 := Lib.hid (Rw.rh_grown HT0.out hg HTB.out)
  clear hR hg HR0 HG0 HT0
  have HDG : Hid ((decide ((48 : Int) ≤ 0) && decide ((0 : Int) ≤ 57)) = false) := Lib.hid (by decide)
  go_wp2_with fail
  refine (isDigit_at 0 W1).mono ?_
  rw [HDG.out]
  rintro e w3 ⟨rfl, hw⟩
  have hw := hw.symm
  subst hw
  obtain ⟨c0, c1, c2, c3⟩ := HR1.out.c
  go_wp2_with fail
  refine (jfail_no rb s a _ 10 b f W1 HR1.out HB.out).mono ?_
  rintro e w4 ⟨rfl, hw⟩
  have hw := hw.symm
  subst hw
  have HF : Hid (RJ (W1.setRow w.heap.size (vAr 0 0 eB (.slice none 0 0) (.slice none 0 0))) rb s a b f ∧ w.grownBy (W1.setRow w.heap.size (vAr 0 0 eB (.slice none 0 0) (.slice none 0 0))) (some rb)) := Lib.hid ⟨RH.row_other HR1.out (by have := HRB.out; omega) _, jgr_row HG1.out (Nat.le_refl _) _⟩
  go_wp2_with (refine wpList_store_row rfl _ _ _ rfl w.heap.size (vAr 0 0 eB (.slice none 0 0) (.slice none 0 0)) rfl rfl _ _ HT1.out (v_inf5 _ _ _ _ _) rfl (v_all5 _ _ _ _ _ _ _ _ _) ?_)
  (try simp only [Exit.inBlock, Exit.then])
  refine bodyPost_ret (v := .agg (vAr 0 0 eB (.slice none 0 0) (.slice none 0 0))) (results_cell_row rfl _ _ _ _ _ _ _ rfl (HT1.out.row _) Tryz.underlying25 rfl (v_inf5 _ _ _ _ _)) rfl ?_
  exact ⟨rfl, HF.out⟩
section
variable {s : ByteArray} {rb : Nat} {w W : World} {m : Res Unit}
theorem blanksE (h : AftJ s rb w W m) (hs : s.size ≤ 1000000) : Calls Tryz.prog 11 #[.pointer (some ⟨rb, 0, none⟩)] W fun e w' => e = .returned (.tuple #[]) ∧ AftJ s rb w w' (m.bind fun _ r => .ok () (skipW r)) ∧ W.grownBy w' (some rb) := by
  cases m with
  | ok u r =>
    obtain ⟨a, ha, hd, hR, hg⟩ := h
    refine (jblanks_at rb s a W hR hs ha).mono ?_
    rintro e w' ⟨he, a', ha', hd', hR', hg'⟩
    exact ⟨he, ⟨a', ha', by rw [hd', hd], hR', hg.trans hg'⟩, hg'⟩
  | bad q er =>
    obtain ⟨a, ha, hR, hg⟩ := h
    refine (jblanks_no rb s a _ er W hR hs (Int.natCast_nonneg _)).mono ?_
    rintro e w' ⟨he, hR', hg'⟩
    exact ⟨he, ⟨a, ha, hR', hg.trans hg'⟩, hg'⟩
theorem mustE (c : UInt8) (hc : c ≠ 0) (h : AftJ s rb w W m) (hs : s.size ≤ 1000000) : Calls Tryz.prog 44 #[.pointer (some ⟨rb, 0, none⟩), .int .u8 (c.toNat : Int)] W fun e w' => e = .returned (.tuple #[]) ∧ AftJ s rb w w' (m.bind fun _ r => signP c r) ∧ W.grownBy w' (some rb) := by
  cases m with
  | ok u r =>
    obtain ⟨a, ha, hd, hR, hg⟩ := h
    by_cases hp : pk s a = (c.toNat : Int)
    · obtain ⟨hlt, hy⟩ := sign_yes hc hp
      refine (must_ok rb s a _ W hR hs hlt hp).mono ?_
      rintro e w' ⟨he, hR', hg'⟩
      refine ⟨he, ?_, hg'⟩
      show AftJ s rb w w' (signP c r)
      rw [← hd, hy]
      exact ⟨a + 1, hlt, rfl, hR', hg.trans hg'⟩
    · refine (must_no rb s a _ W hR hs hp).mono ?_
      rintro e w' ⟨he, hR', hg'⟩
      refine ⟨he, ?_, hg'⟩
      show AftJ s rb w w' (signP c r)
      rw [← hd, sign_nay hc hp]
      exact BadJ.at hR' ha ha (hg.trans hg')
  | bad q er =>
    obtain ⟨a, ha, hR, hg⟩ := h
    refine (must_err rb s a _ er _ W hR hs (Int.natCast_nonneg _) (fun e => hc (UInt8.toNat_inj.1 (by show c.toNat = 0; omega)))).mono ?_
    rintro e w' ⟨he, hR', hg'⟩
    exact ⟨he, ⟨a, ha, hR', hg.trans hg'⟩, hg'⟩
theorem valueE {g : Nat} (HI : ValJAt s rb g) (h : AftJ s rb w W m) (hs : s.size ≤ 1000000) (hf : ∀ u r, m = .ok u r → 2 * r.length + 1 ≤ g) : Calls Tryz.prog 12 #[.pointer (some ⟨rb, 0, none⟩)] W (ValJ s rb W (m.bind fun _ r => valP g r)) := by
  cases m with
  | ok u r =>
    obtain ⟨a, ha, hd, hR, hg⟩ := h
    have h9 := hf u r rfl
    rw [← hd, dr_len ha] at h9
    have := HI a W hR ha h9
    rw [hd] at this
    exact this
  | bad q er =>
    obtain ⟨a, ha, hR, hg⟩ := h
    refine (jval_err rb s a _ er W hR hs (Int.natCast_nonneg _)).mono ?_
    rintro e w' ⟨he, hR', hg'⟩
    exact ⟨V0, _, he, on_zero _ _, (fun u r e => by cases e), ⟨a, ha, hR', hg'⟩⟩
/-- what more answers, in either state -/
def MoreE (s : ByteArray) (rb : Nat) (w : World) (y : Res V) (z : Res Bool) (e : Ending) (w' : World) : Prop := match z with
  | .ok true t => e = .returned (.bool true) ∧ ∃ a, a ≤ s.size ∧ (∀ x u, y = .ok x u → s.size - a < u.length) ∧ skipW (dr s a) = t ∧ RJ w' rb s a (-1) 0 ∧ w.grownBy w' (some rb)
  | .ok false t => e = .returned (.bool false) ∧ ∃ a, a ≤ s.size ∧ dr s a = t ∧ RJ w' rb s a (-1) 0 ∧ w.grownBy w' (some rb)
  | .bad q er => e = .returned (.bool false) ∧ BadJ s rb w w' q er
theorem moreE {y : Res V} (c : UInt8) (hc : c ≠ 0) (h : AftJ s rb w W y) (hs : s.size ≤ 1000000) : Calls Tryz.prog 46 #[.pointer (some ⟨rb, 0, none⟩), .int .u8 (c.toNat : Int)] W fun e w' => MoreE s rb w y (y.bind fun _ u => moreP c u) e w' ∧ W.grownBy w' (some rb) := by
  cases y with
  | ok x u =>
    obtain ⟨a, ha, hd, hR, hg⟩ := h
    refine (jmore_at rb s a c W hR hs ha hc).mono ?_
    rw [hd]
    show ∀ e w', MoreJ s rb a W (moreP c u) e w' → MoreE s rb w (.ok x u) (moreP c u) e w' ∧ W.grownBy w' (some rb)
    intro e w' hm
    cases hz : moreP c u with
    | bad q er =>
      rw [hz] at hm
      obtain ⟨he, a4, ha4, hR4, hg4⟩ := hm
      exact ⟨⟨he, a4, ha4, hR4, hg.trans hg4⟩, hg4⟩
    | ok bb t =>
      rw [hz] at hm
      cases bb with
      | true =>
        obtain ⟨he, a4, hlt, ha4, hd4, hR4, hg4⟩ := hm
        refine ⟨⟨he, a4, ha4, ?_, hd4, hR4, hg.trans hg4⟩, hg4⟩
        intro x' u' e'
        cases e'
        rw [← hd, dr_len ha]; omega
      | false =>
        obtain ⟨he, a4, ha4, hd4, hR4, hg4⟩ := hm
        exact ⟨⟨he, a4, ha4, hd4, hR4, hg.trans hg4⟩, hg4⟩
  | bad q er =>
    obtain ⟨a, ha, hR, hg⟩ := h
    refine (more_err rb s a _ er _ W hR hs (Int.natCast_nonneg _) (fun e => hc (UInt8.toNat_inj.1 (by show c.toNat = 0; omega)))).mono ?_
    rintro e w' ⟨he, hR', hg'⟩
    exact ⟨⟨he, a, ha, hR', hg.trans hg'⟩, hg'⟩
end
/-- blocks from N on -/
abbrev fromN (N : Nat) : Nat → Prop := inD (fun _ => False) 0 N
/-- the call's variable, its result's box and the fields so far -/
structure OJ (rb : Nat) (w : World) (vb : Nat) (X : World) (l : List F) (v : Value) (E : List (List Value)) : Prop where
  rv : RH X vb (vAr 5 0 eB (.slice none 0 0) v) 25
  rr : RH X w.heap.size (vAr 0 0 eB (.slice none 0 0) (.slice none 0 0)) 25
  lt : w.heap.size < vb
  lrb : rb < w.heap.size
  fr : FR (fromN (vb + 1)) X l v E
  gr : w.grownBy X (some rb)
section
variable {rb vb : Nat} {w X X' : World} {l : List F} {v : Value} {E : List (List Value)}
theorem OJ.kept (h : OJ rb w vb X l v E) (hg : X.grownBy X' (some rb)) : OJ rb w vb X' l v E :=
  ⟨Rw.rh_grown h.rv hg (fun e => by have := Option.some.inj e; have := h.lt; have := h.lrb; omega), Rw.rh_grown h.rr hg (fun e => by have := Option.some.inj e; have := h.lrb; omega), h.lt, h.lrb,
    On.grownBy h.fr hg (fun q _ hq e => by
      have := Option.some.inj e
      have := h.lt
      have := h.lrb
      rcases hq with hq | hq
      · exact hq.1
      · omega), h.gr.trans hg⟩
theorem OJ.below (h : OJ rb w vb X l v E) (hb : Below X.heap.size X X') : OJ rb w vb X' l v E := h.kept (gr_below hb _)
/-- another row of fields is stored -/
theorem OJ.turn {l' : List F} {v' : Value} {E' : List (List Value)} (h : OJ rb w vb X l v E) (hf : FR (fromN (vb + 1)) X l' v' E') : OJ rb w vb (X.setRow vb (vAr 5 0 eB (.slice none 0 0) v')) l' v' E' :=
  ⟨h.rv.row _, h.rr.row_other (by have := h.lt; omega) _, h.lt, h.lrb, On.keep hf (by rw [setRow_size]; exact Nat.le_refl _) (fun q _ hq => setRow_other _ _ _ _ (by
    rcases hq with hq | hq
    · exact hq.1.elim
    · omega)), jgr_row h.gr (Nat.le_of_lt h.lt) _⟩
theorem oj_obj (h : OJ rb w vb X l v E) : On (fun q => w.heap.size < q) (fun Z => RepV Z (obj l) [.int .i64 5, .int .i64 0, .string eB, .slice none 0 0, v]) X :=
  (on_obj (fun Z => Sl.nil Z) h.fr).mono (fun q _ hq => by
    have := h.lt
    rcases hq with hq | hq
    · exact hq.1.elim
    · omega)
end
/-- what a field's steps give -/
def fldQ (g : Nat) (acc : List F) (nm : ByteArray) (m : Res Unit) : Res (List F) := m.bind fun _ q => (signP 58 (skipW q)).bind fun _ t => (valP g (skipW t)).bind fun x u => (moreP 125 u).bind fun bb v => if bb = true then fldP g (acc ++ [.mk nm x]) v else .ok (acc ++ [.mk nm x]) v
theorem fldQ_bad {g : Nat} {acc : List F} {l q : List UInt8} {e : Int} (nm : ByteArray) (h : textP l = .bad q e) : fldP (g + 1) acc l = fldQ g acc nm (.bad q e) := by rw [fldP, h]; rfl
theorem fldQ_twice {g : Nat} {acc : List F} {l q nm : List UInt8} (h : textP l = .ok nm q) (h2 : (lk acc (stB nm)).isSome = true) : fldP (g + 1) acc l = fldQ g acc (stB nm) (.bad l 7) := by
  rw [fldP, h]
  simp only [h2]
  rfl
theorem fldQ_ok {g : Nat} {acc : List F} {l q nm : List UInt8} (h : textP l = .ok nm q) (h2 : (lk acc (stB nm)).isSome = false) : fldP (g + 1) acc l = fldQ g acc (stB nm) (.ok () q) := by
  rw [fldP, h]
  simp only [h2]
  unfold fldQ
  show _ = (signP 58 (skipW q)).bind _
  cases signP 58 (skipW q) with
  | bad t e => rfl
  | ok u t =>
    show _ = (valP g (skipW t)).bind _
    simp only
    cases valP g (skipW t) with
    | bad a e => rfl
    | ok x a =>
      show _ = (moreP 125 a).bind _
      simp only
      cases moreP 125 a with
      | bad a e => rfl
      | ok bb v => cases bb <;> rfl
end Fd
end Go.Proofs.YtbhcfmdogdaodaaGreatDoor
namespace Go.Proofs.YtbhcfmdogdaodaaGreatDoor
open Go.RowKit
namespace Fd
open _root_.Go.Proofs.YtbhcfmdogdaodaaGreatDoor.Nm
open _root_.Go.Proofs.YtbhcfmdogdaodaaGreatDoor.Nt (RH RH.cell RH.box RH.lt RH.new RH.ext RH.fre RH.set RH.other)
open _root_.Go.Proofs.YtbhcfmdogdaodaaGreatDoor.Nt (RH.row RH.row_other RH.set_other)
open _root_.Go.Proofs.YtbhcfmdogdaodaaGreatDoor.Rw (All2 All2.get All2.length All2.mono All2.append Fresh fresh_own Kept wp_stored)
open _root_.Go.Proofs.YtbhcfmdogdaodaaGreatDoor.Tx (stB)
/-- behind the colon and blanks -/
def preQ (m : Res Unit) : Res Unit := ((m.bind fun _ r => .ok () (skipW r)).bind fun _ r => signP 58 r).bind fun _ r => .ok () (skipW r)
theorem fldQ_chain (g : Nat) (acc : List F) (nm : ByteArray) (m : Res Unit) : fldQ g acc nm m = ((preQ m).bind fun _ r => valP g r).bind fun x u => (moreP 125 u).bind fun bb v => if bb = true then fldP g (acc ++ [.mk nm x]) v else .ok (acc ++ [.mk nm x]) v := by
  unfold fldQ preQ
  cases m with
  | bad q e => rfl
  | ok u q =>
    show (signP 58 (skipW q)).bind _ = ((((Res.ok () (skipW q)).bind fun _ r => signP 58 r).bind fun _ r => Res.ok () (skipW r)).bind fun _ r => valP g r).bind _
    show (signP 58 (skipW q)).bind _ = (((signP 58 (skipW q)).bind fun _ r => Res.ok () (skipW r)).bind fun _ r => valP g r).bind _
    cases signP 58 (skipW q) with
    | bad t e => rfl
    | ok a t => rfl
theorem preQ_len {m : Res Unit} {N : Nat} (h : ∀ u q, m = .ok u q → q.length + 1 ≤ N) {u : Unit} {r : List UInt8} (hr : preQ m = .ok u r) : r.length + 2 ≤ N := by
  unfold preQ at hr
  obtain ⟨a1, r1, h1, h2⟩ := bind_ok hr
  obtain ⟨a2, r2, h3, h4⟩ := bind_ok h1
  obtain ⟨a3, r3, h5, h6⟩ := bind_ok h3
  have k1 := h a3 r3 h5
  have k2 := skipW_len r3
  have k4 := skipW_len r1
  cases h6
  have k3 := signP_len h4
  cases h2
  omega
theorem valQ_len {m : Res Unit} {N g : Nat} (h : ∀ u q, m = .ok u q → q.length + 1 ≤ N) {x : V} {u : List UInt8} (hr : ((preQ m).bind fun _ r => valP g r) = .ok x u) : u.length + 2 ≤ N := by
  obtain ⟨a, r, h1, h2⟩ := bind_ok hr
  have k1 := preQ_len h h1
  have k2 := valP_len g r h2
  omega
theorem moreQ {g : Nat} {acc : List F} {nm : ByteArray} {y : Res V} {z : Res Bool} {v9 : V} (hz : (y.bind fun _ u => moreP 125 u) = z) (hv : ∀ t r, y = .ok t r → v9 = t) :
    (y.bind fun x u => (moreP 125 u).bind fun bb v => if bb = true then fldP g (acc ++ [.mk nm x]) v else .ok (acc ++ [.mk nm x]) v) = z.bind fun bb v => if bb = true then fldP g (acc ++ [.mk nm v9]) v else .ok (acc ++ [.mk nm v9]) v := by
  subst hz
  cases y with
  | bad q e => rfl
  | ok x u =>
    rw [hv x u rfl]
    rfl
theorem fofR_has {acc : List F} (hd : DistF acc) (nm : ByteArray) : (fofR (obj (putAll [] acc)) nm).isSome = (lk acc nm).isSome := by
  have h1 : fofR (obj (putAll [] acc)) nm = lk (putAll [] acc) nm := if_pos rfl
  rw [h1, lk_putAll List.Pairwise.nil hd]
  cases lk acc nm <;> rfl
end Fd
end Go.Proofs.YtbhcfmdogdaodaaGreatDoor
