/- object of the program's reader. Printed by gen_rdk.py. -/
import Derived.Test.YtbhcfmdogdaodaaGreatDoorRz17
namespace Go.Proofs.YtbhcfmdogdaodaaGreatDoor
open Go.RowKit
namespace Fd
open _root_.Go.Proofs.YtbhcfmdogdaodaaGreatDoor.Nm
open _root_.Go.Proofs.YtbhcfmdogdaodaaGreatDoor.Nt (RH RH.cell RH.box RH.lt RH.new RH.ext RH.fre RH.set RH.other)
open _root_.Go.Proofs.YtbhcfmdogdaodaaGreatDoor.Nt (RH.row RH.row_other RH.set_other)
open _root_.Go.Proofs.YtbhcfmdogdaodaaGreatDoor.Rw (All2 All2.get All2.length All2.mono All2.append Fresh fresh_own Kept wp_stored)
open _root_.Go.Proofs.YtbhcfmdogdaodaaGreatDoor.Tx (stB)
theorem fl_bad {f : Nat} {acc : List F} {l q : List UInt8} {e : Int} (h : textP l = .bad q e) : fldP (f + 1) acc l = .bad q e := by rw [fldP, h]
theorem fl_twice {f : Nat} {acc : List F} {l q nm : List UInt8} (h : textP l = .ok nm q) (h2 : (lk acc (stB nm)).isSome = true) : fldP (f + 1) acc l = .bad l 7 := by
  rw [fldP, h]
  simp only [if_pos h2]
theorem fl_sign {f : Nat} {acc : List F} {l q nm t : List UInt8} {e : Int} (h : textP l = .ok nm q) (h2 : (lk acc (stB nm)).isSome = false) (h3 : signP 58 (skipW q) = .bad t e) : fldP (f + 1) acc l = .bad t e := by
  rw [fldP, h]
  simp only [h2, Bool.false_eq_true, if_false, h3]
theorem fl_val {f : Nat} {acc : List F} {l q nm t u : List UInt8} {e : Int} (h : textP l = .ok nm q) (h2 : (lk acc (stB nm)).isSome = false) (h3 : signP 58 (skipW q) = .ok () t) (h4 : valP f (skipW t) = .bad u e) : fldP (f + 1) acc l = .bad u e := by
  rw [fldP, h]
  simp only [h2, Bool.false_eq_true, if_false, h3, h4]
theorem fl_more {f : Nat} {acc : List F} {l q nm t u y : List UInt8} {x : V} {e : Int} (h : textP l = .ok nm q) (h2 : (lk acc (stB nm)).isSome = false) (h3 : signP 58 (skipW q) = .ok () t) (h4 : valP f (skipW t) = .ok x u) (h5 : moreP 125 u = .bad y e) : fldP (f + 1) acc l = .bad y e := by
  rw [fldP, h]
  simp only [h2, Bool.false_eq_true, if_false, h3, h4, h5]
theorem fl_ok {f : Nat} {acc : List F} {l q nm t u y : List UInt8} {x : V} {b : Bool} (h : textP l = .ok nm q) (h2 : (lk acc (stB nm)).isSome = false) (h3 : signP 58 (skipW q) = .ok () t) (h4 : valP f (skipW t) = .ok x u) (h5 : moreP 125 u = .ok b y) : fldP (f + 1) acc l = if b = true then fldP f (acc ++ [.mk (stB nm) x]) y else .ok (acc ++ [.mk (stB nm) x]) y := by
  rw [fldP, h]
  simp only [h2, Bool.false_eq_true, if_false, h3, h4, h5]
  cases b <;> rfl
/-- what object takes -/
def objP (f : Nat) (r : List UInt8) : Res V := match skipW r with
  | [] => (fldP f [] []).bind fun fs q => .ok (obj (putAll [] fs)) q
  | b :: q => if b = 125 then .ok (obj []) q else (fldP f [] (b :: q)).bind fun fs t => .ok (obj (putAll [] fs)) t
theorem objP_end {f : Nat} {r : List UInt8} {s : ByteArray} {a : Nat} (h : dr s a = skipW r) (h1 : pk s a = 125) : a < s.size ∧ objP f r = .ok (obj []) (dr s (a + 1)) := by
  have hlt : a < s.size := Classical.byContradiction fun hn => by rw [pk_ge (by omega)] at h1; omega
  refine ⟨hlt, ?_⟩
  unfold objP
  rw [← h, dr_lt hlt]
  rw [pk_lt hlt] at h1
  exact if_pos (UInt8.toNat_inj.1 (by show _ = 125; omega))
theorem objP_els {f : Nat} {r : List UInt8} {s : ByteArray} {a : Nat} (h : dr s a = skipW r) (h1 : pk s a ≠ 125) : objP f r = (fldP f [] (dr s a)).bind fun fs q => .ok (obj (putAll [] fs)) q := by
  unfold objP
  rw [← h]
  by_cases hlt : a < s.size
  · rw [pk_lt hlt] at h1
    rw [dr_lt hlt]
    exact if_neg (fun e => h1 (by rw [e]; rfl))
  · rw [dr_ge (by omega)]
abbrev LO (rb : Nat) (w : World) (vb N : Nat) (X : World) (l : List F) (v : Value) (E : List (List Value)) : Prop := LJ RepF 54 6 (fun u => vAr 5 0 eB (.slice none 0 0) u) rb w vb N X l v E
/-- an object of the call's own -/
theorem lo_obj {rb vb N : Nat} {w X : World} {l : List F} {v : Value} {E : List (List Value)} (h : LO rb w vb N X l v E) : On (fun q => w.heap.size < q) (fun Z => RepV Z (obj l) [.int .i64 5, .int .i64 0, .string eB, .slice none 0 0, v]) X := fun Z hZ => by
  obtain ⟨h1, h2⟩ := h.er.on Z (fun q hq hD => hZ q hq (by have := h.lt; have := h.vn; omega))
  exact rep_mk (k := 5) (n := 0) (s := ByteArray.empty) (is := []) (EI := []) ⟨by unfold i64ok; omega, by unfold i64ok; omega, by decide⟩ (Sl.nil Z) trivial h1 h2
theorem RD.own {w Z Z' : World} {rb vb N : Nat} {l : List F} {v : Value} {E : List (List Value)} (h : LO rb w vb N Z l v E) (hg : Z.grownBy Z' v.ownBlock) {s : ByteArray} {at_ : Nat} {e i : Int} (hR : RD Z rb s at_ e i) : RD Z' rb s at_ e i :=
  hR.grown hg (h.er.ne (by have := h.lrb; have := h.lt; have := h.vn; omega))
/-- behind the sorting -/
theorem lo_sorted {rb vb N : Nat} {w Z Z' : World} {l S : List F} {v : Value} {E E' : List (List Value)} (h : LO rb w vb N Z l v E) (hT : TopF N Z' S v E') (hg : Z.grownBy Z' v.ownBlock) : LO rb w vb N Z' S v E' ∧ ∀ {s : ByteArray} {i : Int} {x : Res V}, AftS s rb i w Z x → AftS s rb i w Z' x := by
  have hb : ∀ q, v.ownBlock = some q → w.heap.size ≤ q := fun q hq => by have := (h.er.ge q hq).1; have := h.lt; have := h.vn; omega
  refine ⟨⟨Rw.rh_grown h.rv hg (h.er.ne h.vn), Rw.rh_grown h.rr hg (h.er.ne (by have := h.lt; have := h.vn; omega)), h.lt, h.lrb, h.vn, top_er hT, gr_own h.gr hg hb⟩, fun {s i x} hA => ?_⟩
  cases x with
  | ok v r =>
    obtain ⟨a, h1, h2, h3, h4⟩ := hA
    exact ⟨a, h1, h2, RD.own h hg h3, gr_own h4 hg hb⟩
  | bad q er =>
    obtain ⟨a, h1, h2, h3, h4⟩ := hA
    exact ⟨a, h1, h2, RD.own h hg h3, gr_own h4 hg hb⟩
theorem fI6 : (Tryz.prog.info? 54).map (fun i => (i.zero, i.size, i.bytes)) = some (some (.agg #[.string ByteArray.empty, .int .i64 0, .int .i64 0, .string ByteArray.empty, .slice none 0 0, .slice none 0 0]), 6, 96) := by kernel_rfl
theorem wpList_append_fd {ops : Array Oper} {rest : List Oper} {o : Oper} {a : Act} {Q : Exit → Act → World → Prop} {Y : World} (hgd : o.guard = none) (s x : Operand)
    (ho : o.op = .call { callee := .builtin .append, args := #[s, x], argTypes := #[23, 23] })
    {base : Nat} {l : List F} {v : Value} {E : List (List Value)} {y : F} {c : List Value} {B : Nat} {tB : TypeId} (hs : a.eval s = v) (hx : a.eval x = .slice (some ⟨B, 0, none⟩) 1 1) (hO : ER RepF 54 6 base Y l v E)
    (hy : On (fun q => base ≤ q ∧ v.ownBlock ≠ some q) (fun Z => RepF Z y c) Y) (hB : RH Y B c.toArray tB) (hbase : base ≤ Y.heap.size) (hn : l.length ≤ 1000000)
    (h : ∀ a7 LN c7 Y2, ER RepF 54 6 base Y2 (l ++ [y]) (.slice a7 LN c7) (E ++ [c]) → Y.grownBy Y2 v.ownBlock → wpList Tryz.prog ops Q rest (a.put o.dst (.slice a7 LN c7)) Y2) : wpList Tryz.prog ops Q (o :: rest) a Y := by
  obtain ⟨J, hJ⟩ : ∃ i, Tryz.prog.info? 54 = some i := by
    cases hq : Tryz.prog.info? 54 with
    | none => have := fI6; rw [hq] at this; cases this
    | some i => exact ⟨i, rfl⟩
  have hci := fI6
  rw [hJ] at hci
  simp only [Option.map_some, Option.some.injEq, Prod.mk.injEq] at hci
  obtain ⟨hz1, hz2, hz3⟩ := hci
  have hl : c.length = 6 := RepF.len hy.now
  have hcB : ∀ (j : Nat) (u : Value), c[j]? = some u → Y.cell? ((⟨B, 0, none⟩ : Addr).add j) = some u := fun j u hu => by
    rw [add_spot, Nat.zero_add, hB.cell]; exact (List.getElem?_toArray).trans hu
  refine wpList_append_own_at _ hgd s x _ ho base _ J _ 6 96 Tryz.underlying23 hJ hz1 hz2 hz3 rfl (by decide) v l.length E.flatten hs hO.own ⟨B, 0, none⟩ 1 1 c hx (by rw [hl]) hcB (RepF.one hy.now) (by unfold maxLen; omega) (by omega) hbase ?_
  intro v' Y2 g1 g2 _ g3
  have hE := hO.push hy (Nat.le_refl _) (fun _ _ => rfl) g1 g2 g3
  obtain ⟨a7, c7, rfl, _⟩ := Sl.ofOwn hE.own
  exact h a7 _ c7 Y2 hE g2
/-- a temporary that holds a field just read -/
def TPfd (D : Nat → Prop) (nm : ByteArray) (y : Res V) : TP where
  p W u := ∃ (v : V) (c : List Value), u = .agg (.string nm :: c).toArray ∧ On D (fun Z => RepV Z v c) W ∧ (∀ t r, y = .ok t r → v = t)
  gr := by
    rintro W W' u hb ⟨v, c, h1, h2, h3⟩
    exact ⟨v, c, h1, h2.below hb, h3⟩
/-- a temporary that holds the slice of one such field -/
def TPfs (D : Nat → Prop) (base : Nat) (nm : ByteArray) (y : Res V) : TP where
  p W u := ∃ (v : V) (c : List Value) (B : Nat), u = .slice (some ⟨B, 0, none⟩) 1 1 ∧ base ≤ B ∧ RH W B (.string nm :: c).toArray 54 ∧ On D (fun Z => RepV Z v c) W ∧ (∀ t r, y = .ok t r → v = t)
  gr := by
    rintro W W' u hb ⟨v, c, B, h1, h2, h3, h4, h5⟩
    exact ⟨v, c, B, h1, h2, h3.ext hb, h4.below hb, h5⟩
set_option maxRecDepth 100000 in
set_option maxHeartbeats 8000000 in
theorem object_at (rb : Nat) (s : ByteArray) (a f : Nat) (i : Int) (w : World) (h : RD w rb s a 0 i) (hs : s.size ≤ 100000) (ha : a < s.size) (hf : 2 * (s.size - (a + 1)) + 2 ≤ f) (HI : ∀ g, g < f → ValAt s rb i g) : Calls Tryz.prog 21 #[.pointer (some ⟨rb, 0, none⟩)] w (ValPost s rb i w (objP f (dr s (a + 1)))) := by
  have hs0 : s.size ≤ 1000000 := by omega
  have hs1 : (s.size : Int) ≤ 100000 := by omega
  have hai : (a : Int) ≤ 100000 := by omega
  have HR := Lib.hid h
  have HVA := Lib.hid HI
  have HRB : Hid (rb < w.heap.size) := Lib.hid h.lt
  obtain ⟨x, hx⟩ : ∃ x, objP f (dr s (a + 1)) = x := ⟨_, rfl⟩
  have HX := Lib.hid hx
  have HA := Lib.hid ha
  have HF := Lib.hid hf
  rw [hx]
  clear h hx ha HI hf
  have hmm := @run_makeMap Tryz.prog
  go_enter Tryz.func21, Tryz.ntmps21
  go_upto_region 1 with (fail)
  refine Tx.wp_vr1 fun W hbW hR1 => ?_
  have HRW := Lib.hid (HR.out.ext hbW)
  have HGW := Lib.hid (gr_below hbW (some rb))
  have HQW := Lib.hid hR1
  clear hbW hR1 HR
  go_upto_region 2 with (refine wpList_store_row rfl _ _ _ rfl W.heap.size (vAr 5 0 eB (.slice none 0 0) (.slice none 0 0)) rfl rfl _ _ (RH.new _ _ _) (v_inf5 _ _ _ _ _) rfl (v_all5 _ _ _ _ _ _ _ _ _) ?_)
  refine wp_stored fun Y hbY hRv => ?_
  obtain ⟨vb, hvb⟩ : ∃ vb, W.heap.size = vb := ⟨_, rfl⟩
  have HRY := Lib.hid (HRW.out.ext hbY)
  have HVY : Hid (RH Y vb (vAr 5 0 eB (.slice none 0 0) (.slice none 0 0)) 25 ∧ RH Y w.heap.size (vAr 0 0 eB (.slice none 0 0) (.slice none 0 0)) 25 ∧ w.heap.size < vb ∧ w.grownBy Y (some rb)) := Lib.hid ⟨hvb ▸ hRv, HQW.out.ext hbY, hvb ▸ HQW.out.lt, HGW.out.trans (gr_below hbY (some rb))⟩
  rw [hvb]
  clear hbY hRv HRW HGW HQW hvb
  go_upto_region 3 with (fail)
  refine wp_mapN Value.string Value.bool fun Y0 hb0 hm0 => ?_
  obtain ⟨mb, hmb⟩ : ∃ mb, Y.heap.size = mb := ⟨_, rfl⟩
  rw [hmb] at hm0 ⊢
  have HVM : Hid (vb < mb) := Lib.hid (by rw [← hmb]; exact HVY.out.1.lt)
  have HM0 := Lib.hid hm0
  have HR0 := Lib.hid (HRY.out.ext hb0)
  have HJ0 : Hid (LO rb w vb (mb + 1) Y0 [] (.slice none 0 0) []) := Lib.hid ⟨HVY.out.1.ext hb0, HVY.out.2.1.ext hb0, HVY.out.2.2.1, HRB.out, by have := HVM.out; omega, ER.nil Y0 _, HVY.out.2.2.2.trans (gr_below hb0 (some rb))⟩
  have HNE : Hid (some rb ≠ some mb) := Lib.hid (fun e => by have := Option.some.inj e; have := HVM.out; have := HVY.out.2.2.1; have := HRB.out; omega)
  clear hb0 hm0 HRY HVY hmb
  obtain ⟨c0, c1, c2, c3⟩ := HR0.out.c
  have z1 := HR0.out.z 1
  have hg := gr_set Y0 rb 1 (.int .i64 ((a : Int) + 1))
  have HR1 : Hid (RD (Y0.setCell ⟨rb, 1, none⟩ (.int .i64 ((a : Int) + 1))) rb s (a + 1) 0 i) := Lib.hid (HR0.out.next (a + 1))
  have HJ1 := Lib.hid (HJ0.out.kept hg)
  have HM1 := Lib.hid (HM0.out.grown hg HNE.out)
  clear hg
  go_wp2_with fail
  clear c0 c1 c2 c3 z1 HR0 HJ0 HM0
  generalize Y0.setCell ⟨rb, 1, none⟩ (.int .i64 ((a : Int) + 1)) = Y1 at *
  refine (blanks_at rb s (a + 1) 0 i Y1 HR1.out hs0 HA.out).mono ?_
  rintro e Y2 ⟨rfl, b, hb, hbd, hR, hg⟩
  have HR2 := Lib.hid hR
  have HJ2 := Lib.hid (HJ1.out.kept hg)
  have HM2 := Lib.hid (HM1.out.grown hg HNE.out)
  have HB := Lib.hid hb
  have HBD := Lib.hid hbd
  have HBA : Hid (s.size - b ≤ s.size - (a + 1)) := Lib.hid (by
    have := skipW_len (dr s (a + 1))
    rw [← hbd, dr_len hb, dr_len HA.out] at this
    exact this)
  have hbi : (b : Int) ≤ 100000 := by omega
  clear hR hg HR1 HJ1 HM1 hb hbd
  go_wp2_with fail
  refine (peek_q rb s b 0 i Y2 HR2.out hs0).mono ?_
  rintro e Y3 ⟨rfl, hR, hg, -⟩
  have HR3 := Lib.hid hR
  have HJ3 := Lib.hid (HJ2.out.kept hg)
  have HM3 := Lib.hid (HM2.out.grown hg HNE.out)
  clear hR hg HR2 HJ2 HM2
  by_cases hp : pk s b = 125
  · have hpb : (pk s b == 125) = true := by simpa using hp
    have HE := Lib.hid (objP_end (f := f) HBD.out hp)
    have HXO : Hid (x = .ok (obj []) (dr s (b + 1))) := Lib.hid (HX.out.symm.trans HE.out.2)
    clear hp
    obtain ⟨c0, c1, c2, c3⟩ := HR3.out.c
    have z1 := HR3.out.z 1
    have hg := gr_set Y3 rb 1 (.int .i64 ((b : Int) + 1))
    have HR4 : Hid (RD (Y3.setCell ⟨rb, 1, none⟩ (.int .i64 ((b : Int) + 1))) rb s (b + 1) 0 i) := Lib.hid (HR3.out.next (b + 1))
    have HJZ := Lib.hid (HJ3.out.kept hg)
    clear hg
    go_upto_region 7 with (fail)
    clear c0 c1 c2 c3 z1 HR3 HJ3 HM3
    generalize Y3.setCell ⟨rb, 1, none⟩ (.int .i64 ((b : Int) + 1)) = Z at *
    have HAX : Hid (AftS s rb i w Z x) := Lib.hid (by rw [HXO.out]; exact ⟨b + 1, HE.out.1, rfl, HR4.out, HJZ.out.gr⟩)
    have HVX : Hid (∀ u r, x = .ok u r → obj [] = u) := Lib.hid (fun u r e => by rw [HXO.out] at e; cases e; rfl)
    obtain ⟨d0, d1, d2, d3, d4⟩ := va5 HJZ.out.rv
    have HFI : Hid (ValPost s rb i w x (.returned (.agg (vAr 5 0 eB (.slice none 0 0) (.slice none 0 0)))) (Z.setRow w.heap.size (vAr 5 0 eB (.slice none 0 0) (.slice none 0 0)))) := Lib.hid ⟨obj [], _, rfl, ((lo_obj HJZ.out).keep (by rw [setRow_size]; exact Nat.le_refl _) (fun q _ hq => setRow_other _ _ _ _ (by omega))).mono (fun q _ hq => Nat.le_of_lt hq), HVX.out, HAX.out.row (Nat.le_refl _) (by have := HRB.out; omega) _⟩
    go_wp2_with (refine wpList_store_row rfl _ _ _ rfl w.heap.size (vAr 5 0 eB (.slice none 0 0) (.slice none 0 0)) rfl rfl _ _ HJZ.out.rr (v_inf5 _ _ _ _ _) rfl (v_all5 _ _ _ _ _ _ _ _ _) ?_)
    (try simp only [Exit.inBlock, Exit.then])
    refine bodyPost_ret (v := .agg (vAr 5 0 eB (.slice none 0 0) (.slice none 0 0))) (results_cell_row rfl _ _ _ _ _ _ _ rfl (HJZ.out.rr.row _) Tryz.underlying25 rfl (v_inf5 _ _ _ _ _)) rfl HFI.out
  · have hpb : (pk s b == 125) = false := by simpa using hp
    obtain ⟨y0, hy0⟩ : ∃ y0, fldP f [] (dr s b) = y0 := ⟨_, rfl⟩
    have HXE := Lib.hid (HX.out.symm.trans (objP_els (f := f) HBD.out hp))
    rw [hy0] at HXE
    have HY0 := Lib.hid hy0
    have HFB : Hid (2 * (s.size - b) + 2 ≤ f) := Lib.hid (by have := HF.out; have := HBA.out; omega)
    have HFF : Hid (f ≤ f) := Lib.hid (Nat.le_refl _)
    have HAL : Hid (([] : List F).length ≤ b) := Lib.hid (Nat.zero_le _)
    have HDS : Hid (NamesOf [] [] ∧ DistF []) := Lib.hid ⟨NamesOf.nil, List.Pairwise.nil⟩
    have hqb : b ≤ s.size := HB.out
    clear hp hy0 HX HBD HBA HF
    go_wp2_with fail
    go_loopw [29] (fun _ wr => ∃ (acc : List F) (b g : Nat) (av : Option Addr) (LV cv : Nat) (E : List (List Value)) (M : List (ByteArray × Bool)), b ≤ s.size ∧ Hid (acc.length ≤ b) ∧ Hid (2 * (s.size - b) + 2 ≤ g) ∧ Hid (g ≤ f) ∧ Hid (fldP g acc (dr s b) = y0) ∧ Hid (LO rb w vb (mb + 1) wr acc (.slice av LV cv) E) ∧ Hid (MapIs Value.string Value.bool wr mb M) ∧ Hid (NamesOf M acc ∧ DistF acc) ∧ Hid (RD wr rb s b 0 i)) (fun _ wr => s.size - (intOf ((wr.cell? ⟨rb, 1, none⟩).getD undef)).toNat)
    case atStart => exact ⟨[], b, f, none, 0, 0, [], [], hqb, HAL, HFB, HFF, HY0, HJ3, HM3, HDS, HR3⟩
    case round =>
      clear HAL HFB HFF HY0 HJ3 HR3 HM3 HDS HB hbi hqb hpb
      obtain ⟨acc, b, g, av, LV, cv, E, M, hbs, HAL, HGB, HGF, HY, HJ, HM, HDS, HR⟩ := hrel
      cases g with
      | zero => have := HGB.out; omega
      | succ g =>
      generalize hXX : wr = X at *
      clear hXX
      have HBS := Lib.hid hbs
      have hbi : (b : Int) ≤ 100000 := by omega
      clear hbs
      obtain ⟨yt, hyt⟩ : ∃ yt, textP (dr s b) = yt := ⟨_, rfl⟩
      have HYT := Lib.hid hyt
      have hTC := text_at rb s b i X HR.out hs0 HBS.out
      rw [hyt] at hTC
      have HTC := Lib.hid hTC
      clear hyt hTC
      obtain ⟨c0, c1, c2, c3⟩ := HR.out.c
      go_wp2_with fail
      clear c0 c1 c2 c3
      refine HTC.out.mono ?_
      rintro e X1 ⟨nm, hnl, rfl, hnu, hA⟩
      have HNL := Lib.hid hnl
      have HNU := Lib.hid hnu
      have HAT := Lib.hid hA
      have HJ1 := Lib.hid (HJ.out.kept hA.gr)
      have HM1 := Lib.hid (HM.out.grown hA.gr HNE.out)
      clear hnl hnu hA HTC
      obtain ⟨bb, hbb⟩ : ∃ bb, (lk acc (stB nm)).isSome = bb := ⟨_, rfl⟩
      have HBB := Lib.hid hbb
      clear hbb
      cases yt with
      | bad q er =>
        have HXB : Hid (x = .bad q er) := Lib.hid (by rw [HXE.out, ← HY.out, fl_bad HYT.out]; rfl)
        obtain ⟨a1, ha1, her, hR1, _⟩ := HAT.out
        obtain ⟨p, hp⟩ : ∃ p : Int, ((s.size - q.length : Nat) : Int) = p := ⟨_, rfl⟩
        rw [hp] at hR1
        have HEP : Hid (p = ((s.size - q.length : Nat) : Int)) := Lib.hid hp.symm
        have HA1 := Lib.hid ha1
        have HER := Lib.hid her
        have HR1 := Lib.hid hR1
        clear ha1 her hR1 hp
        cases bb with
        | true =>
          obtain ⟨c0, c1, c2, c3⟩ := HR1.out.c
          go_wp2_with (at_lookup; refine wpList_nm rfl _ _ 56 rfl strK_ok Tryz.underlying56 (zeroB _) rfl HM1.out HDS.out.1 (stB nm) rfl true HBB.out ?_)
          clear c0 c1 c2 c3
          refine (fail_no rb s a1 (b : Int) 7 er p X1 HR1.out HER.out).mono ?_
          rintro e Xz ⟨rfl, hw⟩
          have hw := hw.symm
          subst hw
          go_wp2_with ((at_mapUpdate; refine wpList_update_a rfl _ _ _ 56 rfl strK_ok Tryz.underlying56 rfl HM1.out (stB nm) rfl true rfl ?_; intro Z1 hm1 ht1))
          have hg1 := turned_gr ht1
          have HJb := Lib.hid (HJ1.out.turn hg1 HVM.out (Nat.lt_succ_self _))
          have HRb := Lib.hid (HR1.out.grown hg1 HNE.out)
          clear hg1 hm1 ht1
          refine (blanks_at rb s a1 er p Z1 HRb.out hs0 HA1.out).mono ?_
          rintro e Z2 ⟨rfl, a2, ha2, -, hR, hg⟩
          have HR2 := Lib.hid hR
          have HJ2 := Lib.hid (HJb.out.kept hg)
          have HA2 := Lib.hid ha2
          clear hR hg ha2
          go_wp2_with fail
          refine (sign_err rb s a2 er p 58 Z2 HR2.out HER.out).mono ?_
          rintro e Z3 ⟨rfl, hR, hg⟩
          have HR3 := Lib.hid hR
          have HJ3 := Lib.hid (HJ2.out.kept hg)
          clear hR hg
          go_wp2_with fail
          refine (blanks_at rb s a2 er p Z3 HR3.out hs0 HA2.out).mono ?_
          rintro e Z4 ⟨rfl, a5, ha5, -, hR, hg⟩
          have HR5 := Lib.hid hR
          have HJZ := Lib.hid (HJ3.out.kept hg)
          have HAX : Hid (AftS s rb i w Z4 x) := Lib.hid (by rw [HXB.out]; exact ⟨a5, ha5, HER.out, by rw [← HEP.out]; exact hR, HJZ.out.gr⟩)
          have HVX : Hid (∀ u r, x = .ok u r → obj (putAll [] acc) = u) := Lib.hid (fun u r e => by rw [HXB.out] at e; cases e)
          have HDZ : Hid (DistF acc) := Lib.hid HDS.out.2
          have heb : (er == 0) = false := by simpa using HER.out
          have hnb : (er != 0) = true := by simpa using HER.out
          clear hR hg ha5
          obtain ⟨c0, c1, c2, c3⟩ := HR5.out.c
          have hv4 : Z4.cell? ⟨vb, 4, none⟩ = some (.slice av LV cv) := HJZ.out.rv.cell 4
          go_wp2_with fail
          refine (sortFld_at (mb + 1) Z4 acc (by have := HAL.out; have := HBS.out; omega) (.slice av LV cv) _ (er_top HJZ.out.er)).mono ?_
          rintro e ZS ⟨rfl, S, ES, hperm, hsort, hT, hg⟩
          have hSP : S = putAll [] acc := sorted_put hperm hsort HDZ.out
          obtain ⟨hJS, hAS⟩ := lo_sorted HJZ.out hT hg
          have HJS := Lib.hid hJS
          have HAS := Lib.hid (hAS HAX.out)
          have HSP := Lib.hid hSP
          clear hperm hsort hT hg hJS hAS hSP hv4
          obtain ⟨d0, d1, d2, d3, d4⟩ := va5 HJS.out.rv
          have HFI : Hid (ValPost s rb i w x (.returned (.agg (vAr 5 0 eB (.slice none 0 0) (.slice av LV cv)))) (ZS.setRow w.heap.size (vAr 5 0 eB (.slice none 0 0) (.slice av LV cv)))) := Lib.hid ⟨obj S, _, rfl, ((lo_obj HJS.out).keep (by rw [setRow_size]; exact Nat.le_refl _) (fun q _ hq => setRow_other _ _ _ _ (by omega))).mono (fun q _ hq => Nat.le_of_lt hq), (fun u r e => by rw [HSP.out]; exact HVX.out u r e), HAS.out.row (Nat.le_refl _) (by have := HRB.out; omega) _⟩
          go_wp2_with (refine wpList_store_row rfl _ _ _ rfl w.heap.size (vAr 5 0 eB (.slice none 0 0) (.slice av LV cv)) rfl rfl _ _ HJS.out.rr (v_inf5 _ _ _ _ _) rfl (v_all5 _ _ _ _ _ _ _ _ _) ?_)
          (try simp only [Exit.inBlock, Exit.then])
          refine bodyPost_ret (v := .agg (vAr 5 0 eB (.slice none 0 0) (.slice av LV cv))) (results_cell_row rfl _ _ _ _ _ _ _ rfl (HJS.out.rr.row _) Tryz.underlying25 rfl (v_inf5 _ _ _ _ _)) rfl HFI.out
        | false =>
          go_wp2_with (first | (at_lookup; refine wpList_nm rfl _ _ 56 rfl strK_ok Tryz.underlying56 (zeroB _) rfl HM1.out HDS.out.1 (stB nm) rfl false HBB.out ?_) | (at_mapUpdate; refine wpList_update_a rfl _ _ _ 56 rfl strK_ok Tryz.underlying56 rfl HM1.out (stB nm) rfl true rfl ?_; intro Z1 hm1 ht1))
          have hg1 := turned_gr ht1
          have HJb := Lib.hid (HJ1.out.turn hg1 HVM.out (Nat.lt_succ_self _))
          have HRb := Lib.hid (HR1.out.grown hg1 HNE.out)
          clear hg1 hm1 ht1
          refine (blanks_at rb s a1 er p Z1 HRb.out hs0 HA1.out).mono ?_
          rintro e Z2 ⟨rfl, a2, ha2, -, hR, hg⟩
          have HR2 := Lib.hid hR
          have HJ2 := Lib.hid (HJb.out.kept hg)
          have HA2 := Lib.hid ha2
          clear hR hg ha2
          go_wp2_with fail
          refine (sign_err rb s a2 er p 58 Z2 HR2.out HER.out).mono ?_
          rintro e Z3 ⟨rfl, hR, hg⟩
          have HR3 := Lib.hid hR
          have HJ3 := Lib.hid (HJ2.out.kept hg)
          clear hR hg
          go_wp2_with fail
          refine (blanks_at rb s a2 er p Z3 HR3.out hs0 HA2.out).mono ?_
          rintro e Z4 ⟨rfl, a5, ha5, -, hR, hg⟩
          have HR5 := Lib.hid hR
          have HJZ := Lib.hid (HJ3.out.kept hg)
          have HAX : Hid (AftS s rb i w Z4 x) := Lib.hid (by rw [HXB.out]; exact ⟨a5, ha5, HER.out, by rw [← HEP.out]; exact hR, HJZ.out.gr⟩)
          have HVX : Hid (∀ u r, x = .ok u r → obj (putAll [] acc) = u) := Lib.hid (fun u r e => by rw [HXB.out] at e; cases e)
          have HDZ : Hid (DistF acc) := Lib.hid HDS.out.2
          have heb : (er == 0) = false := by simpa using HER.out
          have hnb : (er != 0) = true := by simpa using HER.out
          clear hR hg ha5
          obtain ⟨c0, c1, c2, c3⟩ := HR5.out.c
          have hv4 : Z4.cell? ⟨vb, 4, none⟩ = some (.slice av LV cv) := HJZ.out.rv.cell 4
          go_wp2_with fail
          refine (sortFld_at (mb + 1) Z4 acc (by have := HAL.out; have := HBS.out; omega) (.slice av LV cv) _ (er_top HJZ.out.er)).mono ?_
          rintro e ZS ⟨rfl, S, ES, hperm, hsort, hT, hg⟩
          have hSP : S = putAll [] acc := sorted_put hperm hsort HDZ.out
          obtain ⟨hJS, hAS⟩ := lo_sorted HJZ.out hT hg
          have HJS := Lib.hid hJS
          have HAS := Lib.hid (hAS HAX.out)
          have HSP := Lib.hid hSP
          clear hperm hsort hT hg hJS hAS hSP hv4
          obtain ⟨d0, d1, d2, d3, d4⟩ := va5 HJS.out.rv
          have HFI : Hid (ValPost s rb i w x (.returned (.agg (vAr 5 0 eB (.slice none 0 0) (.slice av LV cv)))) (ZS.setRow w.heap.size (vAr 5 0 eB (.slice none 0 0) (.slice av LV cv)))) := Lib.hid ⟨obj S, _, rfl, ((lo_obj HJS.out).keep (by rw [setRow_size]; exact Nat.le_refl _) (fun q _ hq => setRow_other _ _ _ _ (by omega))).mono (fun q _ hq => Nat.le_of_lt hq), (fun u r e => by rw [HSP.out]; exact HVX.out u r e), HAS.out.row (Nat.le_refl _) (by have := HRB.out; omega) _⟩
          go_wp2_with (refine wpList_store_row rfl _ _ _ rfl w.heap.size (vAr 5 0 eB (.slice none 0 0) (.slice av LV cv)) rfl rfl _ _ HJS.out.rr (v_inf5 _ _ _ _ _) rfl (v_all5 _ _ _ _ _ _ _ _ _) ?_)
          (try simp only [Exit.inBlock, Exit.then])
          refine bodyPost_ret (v := .agg (vAr 5 0 eB (.slice none 0 0) (.slice av LV cv))) (results_cell_row rfl _ _ _ _ _ _ _ rfl (HJS.out.rr.row _) Tryz.underlying25 rfl (v_inf5 _ _ _ _ _)) rfl HFI.out
      | ok t r =>
        have hnt : nm = t := (HNU.out t r rfl).symm
        subst hnt
        obtain ⟨a1, ha1, hd1, hR1, _⟩ := HAT.out
        have HA1 := Lib.hid ha1
        have HD1 := Lib.hid hd1
        have HB1 : Hid (b + 1 ≤ a1) := Lib.hid (by
          have := textP_len HYT.out
          rw [← hd1, dr_len ha1, dr_len HBS.out] at this
          omega)
        cases bb with
        | true =>
          have HXB : Hid (x = .bad (dr s b) 7) := Lib.hid (by rw [HXE.out, ← HY.out, fl_twice HYT.out HBB.out]; rfl)
          have HR0 := Lib.hid hR1
          clear ha1 hd1 hR1
          obtain ⟨c0, c1, c2, c3⟩ := HR0.out.c
          go_wp2_with (at_lookup; refine wpList_nm rfl _ _ 56 rfl strK_ok Tryz.underlying56 (zeroB _) rfl HM1.out HDS.out.1 (stB nm) rfl true HBB.out ?_)
          clear c0 c1 c2 c3
          refine (fail_ok rb s a1 b 7 i X1 HR0.out hs0 HBS.out rfl).mono ?_
          rintro e Xz ⟨rfl, hR, hg⟩
          obtain ⟨er, her⟩ : ∃ er : Int, 7 = er := ⟨_, rfl⟩
          obtain ⟨p, hp⟩ : ∃ p : Int, (b : Int) = p := ⟨_, rfl⟩
          have HEP : Hid (p = ((s.size - (dr s b).length : Nat) : Int)) := Lib.hid (by rw [sub_len HBS.out]; exact hp.symm)
          rw [her] at hR HXB
          rw [hp] at hR
          have HER : Hid (er ≠ 0) := Lib.hid (by omega)
          have HR1 := Lib.hid hR
          have HJx := Lib.hid (HJ1.out.kept hg)
          have HMx := Lib.hid (HM1.out.grown hg HNE.out)
          clear hR hg her hp
          go_wp2_with ((at_mapUpdate; refine wpList_update_a rfl _ _ _ 56 rfl strK_ok Tryz.underlying56 rfl HMx.out (stB nm) rfl true rfl ?_; intro Z1 hm1 ht1))
          have hg1 := turned_gr ht1
          have HJb := Lib.hid (HJx.out.turn hg1 HVM.out (Nat.lt_succ_self _))
          have HRb := Lib.hid (HR1.out.grown hg1 HNE.out)
          clear hg1 hm1 ht1
          refine (blanks_at rb s a1 er p Z1 HRb.out hs0 HA1.out).mono ?_
          rintro e Z2 ⟨rfl, a2, ha2, -, hR, hg⟩
          have HR2 := Lib.hid hR
          have HJ2 := Lib.hid (HJb.out.kept hg)
          have HA2 := Lib.hid ha2
          clear hR hg ha2
          go_wp2_with fail
          refine (sign_err rb s a2 er p 58 Z2 HR2.out HER.out).mono ?_
          rintro e Z3 ⟨rfl, hR, hg⟩
          have HR3 := Lib.hid hR
          have HJ3 := Lib.hid (HJ2.out.kept hg)
          clear hR hg
          go_wp2_with fail
          refine (blanks_at rb s a2 er p Z3 HR3.out hs0 HA2.out).mono ?_
          rintro e Z4 ⟨rfl, a5, ha5, -, hR, hg⟩
          have HR5 := Lib.hid hR
          have HJZ := Lib.hid (HJ3.out.kept hg)
          have HAX : Hid (AftS s rb i w Z4 x) := Lib.hid (by rw [HXB.out]; exact ⟨a5, ha5, HER.out, by rw [← HEP.out]; exact hR, HJZ.out.gr⟩)
          have HVX : Hid (∀ u r, x = .ok u r → obj (putAll [] acc) = u) := Lib.hid (fun u r e => by rw [HXB.out] at e; cases e)
          have HDZ : Hid (DistF acc) := Lib.hid HDS.out.2
          have heb : (er == 0) = false := by simpa using HER.out
          have hnb : (er != 0) = true := by simpa using HER.out
          clear hR hg ha5
          obtain ⟨c0, c1, c2, c3⟩ := HR5.out.c
          have hv4 : Z4.cell? ⟨vb, 4, none⟩ = some (.slice av LV cv) := HJZ.out.rv.cell 4
          go_wp2_with fail
          refine (sortFld_at (mb + 1) Z4 acc (by have := HAL.out; have := HBS.out; omega) (.slice av LV cv) _ (er_top HJZ.out.er)).mono ?_
          rintro e ZS ⟨rfl, S, ES, hperm, hsort, hT, hg⟩
          have hSP : S = putAll [] acc := sorted_put hperm hsort HDZ.out
          obtain ⟨hJS, hAS⟩ := lo_sorted HJZ.out hT hg
          have HJS := Lib.hid hJS
          have HAS := Lib.hid (hAS HAX.out)
          have HSP := Lib.hid hSP
          clear hperm hsort hT hg hJS hAS hSP hv4
          obtain ⟨d0, d1, d2, d3, d4⟩ := va5 HJS.out.rv
          have HFI : Hid (ValPost s rb i w x (.returned (.agg (vAr 5 0 eB (.slice none 0 0) (.slice av LV cv)))) (ZS.setRow w.heap.size (vAr 5 0 eB (.slice none 0 0) (.slice av LV cv)))) := Lib.hid ⟨obj S, _, rfl, ((lo_obj HJS.out).keep (by rw [setRow_size]; exact Nat.le_refl _) (fun q _ hq => setRow_other _ _ _ _ (by omega))).mono (fun q _ hq => Nat.le_of_lt hq), (fun u r e => by rw [HSP.out]; exact HVX.out u r e), HAS.out.row (Nat.le_refl _) (by have := HRB.out; omega) _⟩
          go_wp2_with (refine wpList_store_row rfl _ _ _ rfl w.heap.size (vAr 5 0 eB (.slice none 0 0) (.slice av LV cv)) rfl rfl _ _ HJS.out.rr (v_inf5 _ _ _ _ _) rfl (v_all5 _ _ _ _ _ _ _ _ _) ?_)
          (try simp only [Exit.inBlock, Exit.then])
          refine bodyPost_ret (v := .agg (vAr 5 0 eB (.slice none 0 0) (.slice av LV cv))) (results_cell_row rfl _ _ _ _ _ _ _ rfl (HJS.out.rr.row _) Tryz.underlying25 rfl (v_inf5 _ _ _ _ _)) rfl HFI.out
        | false =>
          have HR0 := Lib.hid hR1
          clear ha1 hd1 hR1
          go_wp2_with (first | (at_lookup; refine wpList_nm rfl _ _ 56 rfl strK_ok Tryz.underlying56 (zeroB _) rfl HM1.out HDS.out.1 (stB nm) rfl false HBB.out ?_) | (at_mapUpdate; refine wpList_update_a rfl _ _ _ 56 rfl strK_ok Tryz.underlying56 rfl HM1.out (stB nm) rfl true rfl ?_; intro Z1 hm1 ht1))
          have hg1 := turned_gr ht1
          have HJb := Lib.hid (HJ1.out.turn hg1 HVM.out (Nat.lt_succ_self _))
          have HRb := Lib.hid (HR0.out.grown hg1 HNE.out)
          have HMb := Lib.hid hm1
          clear hg1 hm1 ht1
          refine (blanks_at rb s a1 0 i Z1 HRb.out hs0 HA1.out).mono ?_
          rintro e Z2 ⟨rfl, a2, ha2, hd2, hR, hg⟩
          have HR2 := Lib.hid hR
          have HJ2 := Lib.hid (HJb.out.kept hg)
          have HM2 := Lib.hid (HMb.out.grown hg HNE.out)
          have HA2 := Lib.hid ha2
          rw [HD1.out] at hd2
          have HD2 := Lib.hid hd2
          have HB2 : Hid (s.size - a2 ≤ s.size - a1) := Lib.hid (by
            have := skipW_len r
            rw [← hd2, ← HD1.out, dr_len ha2, dr_len HA1.out] at this
            exact this)
          clear hR hg ha2 hd2 HJb HRb HMb
          by_cases hc : ∃ h : a2 < s.size, (s[a2].toNat : Int) = 58
          · obtain ⟨hlt, hc⟩ := hc
            have HC := Lib.hid hc
            have HLT2 := Lib.hid hlt
            have HSG : Hid (signP 58 (skipW r) = .ok () (dr s (a2 + 1))) := Lib.hid (by rw [← HD2.out]; exact sign_is (c := 58) hlt hc)
            clear hc
            go_wp2_with fail
            refine (sign_ok rb s a2 i 58 Z2 HR2.out hs0 HLT2.out HC.out).mono ?_
            rintro e Z3 ⟨rfl, hR, hg⟩
            have HR3 := Lib.hid hR
            have HJ3 := Lib.hid (HJ2.out.kept hg)
            have HM3 := Lib.hid (HM2.out.grown hg HNE.out)
            clear hR hg HR2 HJ2 HM2
            go_wp2_with fail
            refine (blanks_at rb s (a2 + 1) 0 i Z3 HR3.out hs0 HLT2.out).mono ?_
            rintro e Z4 ⟨rfl, a4, ha4, hd4, hR, hg⟩
            have HR4 := Lib.hid hR
            have HJ4 := Lib.hid (HJ3.out.kept hg)
            have HM4 := Lib.hid (HM3.out.grown hg HNE.out)
            have HA4 := Lib.hid ha4
            have HD4 := Lib.hid hd4
            have HB4 : Hid (s.size - a4 ≤ s.size - b) := Lib.hid (by
              have h1 := skipW_len (dr s (a2 + 1))
              rw [← hd4, dr_len ha4, dr_len (show a2 + 1 ≤ s.size from HLT2.out)] at h1
              have := HB2.out
              have := HB1.out
              omega)
            clear hR hg ha4 hd4 HR3 HJ3 HM3
            obtain ⟨c0, c1, c2, c3⟩ := HR4.out.c
            go_upto_region 18 with (fail)
            obtain ⟨y, hy⟩ : ∃ y, valP g (dr s a4) = y := ⟨_, rfl⟩
            have HV := Lib.hid hy
            have HVC : Hid (∀ W', Below Z4.heap.size Z4 W' → Calls Tryz.prog 8 #[.pointer (some ⟨rb, 0, none⟩)] W' (ValPost s rb i W' y)) := Lib.hid (fun W' hW => by
              have := HVA.out g (by have := HGF.out; omega) a4 W' (HR4.out.ext hW) HA4.out (by have := HGB.out; have := HB4.out; omega)
              rw [hy] at this
              exact this)
            clear hy
            have HNB : Hid ((stB nm).size ≤ maxLen) := Lib.hid (by
              have h1 : (stB nm).size = nm.length := by simp [stB, ByteArray.size]
              rw [h1]; have := HNL.out; unfold maxLen; omega)
            obtain ⟨v, hv⟩ : ∃ v, Value.slice av LV cv = v := ⟨_, rfl⟩
            have HVV := Lib.hid hv
            rw [hv] at HJ4
            have hv0 : Z4.cell? ⟨vb, 4, none⟩ = some v := HJ4.out.rv.cell 4
            clear hv
            refine GrowB.wp_region_growb (rB := some rb) 7 4 [TP.eq (.pointer (some ⟨vb, 4, none⟩)), TP.eq v, TP.eq (.string (stB nm)), TP.eq (.pointer (some ⟨rb, 0, none⟩)), TPv (fun q => mb + 1 ≤ q ∧ v.ownBlock ≠ some q) s rb i w y, TPfd (fun q => mb + 1 ≤ q ∧ v.ownBlock ≠ some q) (stB nm) y, TPfs (fun q => mb + 1 ≤ q ∧ v.ownBlock ≠ some q) (mb + 1) (stB nm) y] [[], [0], [], [], [3], [2, 4], [5]] (by kernel_rfl) (by kernel_rfl) ?hst ⟨?o0e, ?o1e, ?o2e, ?o3e, ?o4e, ?o5e, ?o6e, trivial⟩ ?tle
            case hst =>
              intro j hj hjc W1 W2 u hg hu
              have hlt := HJ4.out.lt
              have hrb := HJ4.out.lrb
              have hvn := HVM.out
              match j, hj, hjc with
              | 0, _, _ => exact hu
              | 1, _, _ => exact hu
              | 2, _, _ => exact hu
              | 3, _, _ => exact hu
              | 5, _, _ =>
                obtain ⟨v1, c1, h1, h4, h5⟩ := hu
                exact ⟨v1, c1, h1, On.grownBy h4 hg (fun q _ hq e => by have := Option.some.inj e; omega), h5⟩
              | 6, _, _ =>
                obtain ⟨v1, c1, B1, h1, h2, h3, h4, h5⟩ := hu
                exact ⟨v1, c1, B1, h1, h2, Rw.rh_grown h3 hg (fun e => by have := Option.some.inj e; omega), On.grownBy h4 hg (fun q _ hq e => by have := Option.some.inj e; omega), h5⟩
            case o0e =>
              intro w' hb
              show wpList _ _ _ _ _ _
              go_wp2
              exact ⟨rfl, Below.refl _ _, rfl⟩
            case o1e =>
              intro w' hb v1 hv1
              have hv0' : w'.cell? ⟨vb, 4, none⟩ = some v := (HJ4.out.kept (show Z4.grownBy w' (some rb) from hb)).rv.cell 4
              obtain rfl : v1 = _ := hv1
              show wpList _ _ _ _ _ _
              simp only [Grow.dstOf, List.getElem?_toArray, List.getElem?_cons_zero, Option.bind_some, Act.put, List.setIfInBounds_toArray, List.set_cons_succ, List.set_cons_zero]
              go_wp2
              exact ⟨rfl, Below.refl _ _, rfl⟩
            case o2e =>
              intro w' hb
              show wpList _ _ _ _ _ _
              go_wp2
              exact ⟨rfl, Below.refl _ _, rfl⟩
            case o3e =>
              intro w' hb
              show wpList _ _ _ _ _ _
              go_wp2
              exact ⟨rfl, Below.refl _ _, rfl⟩
            case o4e =>
              intro w' hb v3 hv3
              have hbw : Below Z4.heap.size Z4 w' := hb
              obtain rfl : v3 = _ := hv3
              show wpList _ _ _ _ _ _
              simp only [Grow.dstOf, List.getElem?_toArray, List.getElem?_cons_succ, List.getElem?_cons_zero, Option.bind_some, Act.put, List.setIfInBounds_toArray, List.set_cons_succ, List.set_cons_zero]
              go_wp2_with fail
              refine (HVC.out w' hbw).mono ?_
              rintro e wz ⟨v9, c9, rfl, hon, hvu, hA⟩
              have hJ9 := HJ4.out.below hbw
              have hM9 := (HM4.out.ext hbw).lt
              have hPV : (TPv (fun q => mb + 1 ≤ q ∧ v.ownBlock ≠ some q) s rb i w y).p wz (.agg c9.toArray) := ⟨v9, c9, rfl, hon.mono (fun q _ hq => ⟨by omega, fun e => by have := (hJ9.er.ge q e).2; omega⟩), hvu, hA.tr hJ9.gr⟩
              have hG9 : w'.grownBy wz (some rb) := hA.gr
              clear hon hvu hA hJ9 hM9
              go_wp2
              exact ⟨hPV, hG9, rfl⟩
            case o5e =>
              intro w' hb v2 hv2 v4 hv4
              obtain rfl : v2 = _ := hv2
              obtain ⟨v9, c9, rfl, hon, hvu, hA⟩ := hv4
              obtain ⟨k6, n6, s6, a6, m6, r6, a7, m7, r7, rfl⟩ := V5 hon.now
              have hPF : (TPfd (fun q => mb + 1 ≤ q ∧ v.ownBlock ≠ some q) (stB nm) y).p w' (.agg #[.string (stB nm), .int .i64 k6, .int .i64 n6, .string s6, .slice a6 m6 r6, .slice a7 m7 r7]) := ⟨v9, _, rfl, hon, hvu⟩
              clear hon hvu hA
              show wpList _ _ _ _ _ _
              simp only [Grow.dstOf, List.getElem?_toArray, List.getElem?_cons_succ, List.getElem?_cons_zero, Option.bind_some, Act.put, List.setIfInBounds_toArray, List.set_cons_succ, List.set_cons_zero]
              go_wp2
              exact ⟨hPF, Below.refl _ _, rfl⟩
            case o6e =>
              intro w' hb v5 hv5
              have hbg : Z4.grownBy w' (some rb) := hb
              obtain ⟨v9, c9, rfl, hon, hvu⟩ := hv5
              obtain ⟨k6, n6, s6, a6, m6, r6, a7, m7, r7, rfl⟩ := V5 hon.now
              have hM9 := (HM4.out.grown hbg HNE.out).lt
              have hPS : (TPfs (fun q => mb + 1 ≤ q ∧ v.ownBlock ≠ some q) (mb + 1) (stB nm) y).p (w'.alloc (.cells #[.string (stB nm), .int .i64 k6, .int .i64 n6, .string s6, .slice a6 m6 r6, .slice a7 m7 r7] 54)) (.slice (some ⟨w'.heap.size, 0, none⟩) 1 1) := ⟨v9, _, w'.heap.size, rfl, by omega, RH.new _ _ _, hon.below (ext_alloc _ _), hvu⟩
              have hB9 := ext_alloc w' (.cells #[.string (stB nm), .int .i64 k6, .int .i64 n6, .string s6, .slice a6 m6 r6, .slice a7 m7 r7] 54)
              clear hon hvu hM9
              show wpList _ _ _ _ _ _
              simp only [Grow.dstOf, List.getElem?_toArray, List.getElem?_cons_succ, List.getElem?_cons_zero, Option.bind_some, Act.put, List.setIfInBounds_toArray, List.set_cons_succ, List.set_cons_zero]
              go_wp2
              exact ⟨hPS, hB9, rfl⟩
            case tle =>
              intro w3 hbz u0 hu0 u1 hu1 u2 hu2 u3 hu3 u4 hu4 u5 hu5 u6 hu6
              have hJ3 := HJ4.out.kept hbz
              have hM3 := HM4.out.grown hbz HNE.out
              obtain rfl : u0 = _ := hu0
              have hu1 : v = u1 := Eq.symm hu1
              subst hu1
              obtain rfl : u2 = _ := hu2
              obtain rfl : u3 = _ := hu3
              obtain ⟨v8, c8, rfl, _, _, hA⟩ := hu4
              obtain ⟨v7, c7, rfl, _, _⟩ := hu5
              obtain ⟨v9, c9, B9, rfl, hB9, hRB9, hon, hvu⟩ := hu6
              have HAA := Lib.hid hA
              have HVU := Lib.hid hvu
              have HJ3 := Lib.hid hJ3
              have HM3 := Lib.hid hM3
              have HON := Lib.hid (on_field hon HNB.out)
              have HRB9 := Lib.hid hRB9
              clear hA hvu hJ3 hM3 hon hRB9 hbz c0 c1 c2 c3 hv0 HVC
              show wpList _ _ _ _ _ _
              simp only [Act.put, List.setIfInBounds_toArray, List.set_cons_succ, List.set_cons_zero]
              refine wpList_append_fd rfl _ _ rfl rfl rfl HJ3.out.er HON.out HRB9.out (by have := HM3.out.lt; omega) (by have := HAL.out; have := HBS.out; omega) ?_
              intro a5 LN q5 X4 hE5 hg5
              have hs3 : X4.cell? ⟨vb, 4, none⟩ = some v := (Rw.rh_grown HJ3.out.rv hg5 (HJ3.out.er.ne HJ3.out.vn)).cell 4
              have hz3 : X4.frozen? ⟨vb, 4, none⟩ = false := (Rw.rh_grown HJ3.out.rv hg5 (HJ3.out.er.ne HJ3.out.vn)).fre 4
              obtain ⟨hJ5, hRD5⟩ := lj_step (j := 4) HJ3.out (fun _ _ => rfl) hE5 hg5
              have HJ5 := Lib.hid hJ5
              have HRD5 := Lib.hid hRD5
              have HM5 : Hid (MapIs Value.string Value.bool (X4.setCell ⟨vb, 4, none⟩ (.slice a5 LN q5)) mb (putL M (stB nm) true)) := Lib.hid ((HM3.out.grown hg5 (fun e => by have := (HJ3.out.er.ge mb e).1; omega)).grown (gr_set X4 vb 4 (.slice a5 LN q5)) (fun e => by have := Option.some.inj e; have := HVM.out; omega))
              clear hE5 hg5 hJ5 hRD5
              go_wp2_with fail
              clear hs3 hz3
              generalize X4.setCell ⟨vb, 4, none⟩ (.slice a5 LN q5) = Z at *
              have HDN : Hid (NamesOf (putL M (stB nm) true) (acc ++ [F.mk (stB nm) v9]) ∧ DistF (acc ++ [F.mk (stB nm) v9])) := Lib.hid ⟨HDS.out.1.put _ _, HDS.out.2.push HBB.out⟩
              have HLA : Hid ((acc ++ [F.mk (stB nm) v9]).length ≤ b + 1) := Lib.hid (by rw [List.length_append, List.length_singleton]; have := HAL.out; omega)
              have HLB : Hid ((acc ++ [F.mk (stB nm) v9]).length ≤ 100000) := Lib.hid (by have := HLA.out; have := HB1.out; have := HA1.out; omega)
              have HDZ : Hid (DistF (acc ++ [F.mk (stB nm) v9])) := Lib.hid HDN.out.2
              rw [HD4.out] at HV
              cases y with
              | bad q er =>
                obtain ⟨a3, ha3, hne, hRa, _⟩ := HAA.out
                have HXB : Hid (x = .bad q er) := Lib.hid (by rw [HXE.out, ← HY.out, fl_val HYT.out HBB.out HSG.out HV.out]; rfl)
                have hR5 := HRD5.out s _ _ _ hRa
                refine (blanks_at rb s a3 er _ Z hR5 hs0 ha3).mono ?_
                rintro e Z6 ⟨rfl, a8, ha8, -, hR, hg⟩
                have HJ6 := Lib.hid (HJ5.out.kept hg)
                have HR6 := Lib.hid hR
                have HER := Lib.hid hne
                have hneb : (er == 0) = false := by simpa using hne
                have HA8 := Lib.hid ha8
                clear hR5 hR hg hRa hne HRD5 ha8
                obtain ⟨c0, c1, c2, c3⟩ := HR6.out.c
                go_wp2_with fail
                refine (sign_err rb s a8 er _ 125 Z6 HR6.out HER.out).mono ?_
                rintro e Z7 ⟨rfl, hR, hg⟩
                have HJZ := Lib.hid (HJ6.out.kept hg)
                have HAX : Hid (AftS s rb i w Z7 x) := Lib.hid (by rw [HXB.out]; exact ⟨a8, HA8.out, HER.out, hR, HJZ.out.gr⟩)
                have HVX : Hid (∀ u r, x = .ok u r → obj (putAll [] (acc ++ [F.mk (stB nm) v9])) = u) := Lib.hid (fun u r e => by rw [HXB.out] at e; cases e)
                clear hR hg c0 c1 c2 c3
                have hv4 : Z7.cell? ⟨vb, 4, none⟩ = some (.slice a5 LN q5) := HJZ.out.rv.cell 4
                go_wp2_with fail
                refine (sortFld_at (mb + 1) Z7 (acc ++ [F.mk (stB nm) v9]) (HLB.out) (.slice a5 LN q5) _ (er_top HJZ.out.er)).mono ?_
                rintro e ZS ⟨rfl, S, ES, hperm, hsort, hT, hg⟩
                have hSP : S = putAll [] (acc ++ [F.mk (stB nm) v9]) := sorted_put hperm hsort HDZ.out
                obtain ⟨hJS, hAS⟩ := lo_sorted HJZ.out hT hg
                have HJS := Lib.hid hJS
                have HAS := Lib.hid (hAS HAX.out)
                have HSP := Lib.hid hSP
                clear hperm hsort hT hg hJS hAS hSP hv4
                obtain ⟨d0, d1, d2, d3, d4⟩ := va5 HJS.out.rv
                have HFI : Hid (ValPost s rb i w x (.returned (.agg (vAr 5 0 eB (.slice none 0 0) (.slice a5 LN q5)))) (ZS.setRow w.heap.size (vAr 5 0 eB (.slice none 0 0) (.slice a5 LN q5)))) := Lib.hid ⟨obj S, _, rfl, ((lo_obj HJS.out).keep (by rw [setRow_size]; exact Nat.le_refl _) (fun q _ hq => setRow_other _ _ _ _ (by omega))).mono (fun q _ hq => Nat.le_of_lt hq), (fun u r e => by rw [HSP.out]; exact HVX.out u r e), HAS.out.row (Nat.le_refl _) (by have := HRB.out; omega) _⟩
                go_wp2_with (refine wpList_store_row rfl _ _ _ rfl w.heap.size (vAr 5 0 eB (.slice none 0 0) (.slice a5 LN q5)) rfl rfl _ _ HJS.out.rr (v_inf5 _ _ _ _ _) rfl (v_all5 _ _ _ _ _ _ _ _ _) ?_)
                (try simp only [Exit.inBlock, Exit.then])
                refine bodyPost_ret (v := .agg (vAr 5 0 eB (.slice none 0 0) (.slice a5 LN q5))) (results_cell_row rfl _ _ _ _ _ _ _ rfl (HJS.out.rr.row _) Tryz.underlying25 rfl (v_inf5 _ _ _ _ _)) rfl HFI.out
              | ok t2 r2 =>
                obtain ⟨a3, ha3, hda3, hRa, _⟩ := HAA.out
                have hvt : v9 = t2 := HVU.out t2 r2 rfl
                subst hvt
                have hR5 := HRD5.out s _ _ _ hRa
                have HQ3 : Hid (s.size - a3 ≤ s.size - b) := Lib.hid (by
                  have := valP_len g _ HV.out
                  rw [← HD4.out, ← hda3, dr_len ha3, dr_len HA4.out] at this
                  have := HB4.out
                  omega)
                have HA3 := Lib.hid ha3
                refine (blanks_at rb s a3 0 _ Z hR5 hs0 ha3).mono ?_
                rintro e Z6 ⟨rfl, a8, ha8, hda8, hR, hg⟩
                have HJ6 := Lib.hid (HJ5.out.kept hg)
                have HM6 := Lib.hid (HM5.out.grown hg HNE.out)
                have HR6 := Lib.hid hR
                rw [hda3] at hda8
                have HA8 := Lib.hid ha8
                have HQ8 : Hid (s.size - a8 ≤ s.size - b) := Lib.hid (by
                  have h1 := skipW_len r2
                  rw [← hda8, ← hda3, dr_len ha8, dr_len HA3.out] at h1
                  have := HQ3.out
                  omega)
                have HMO := Lib.hid (moreP_at (c := 125) hda8)
                have ha8i : (a8 : Int) ≤ 1000000 := by omega
                clear hR5 hR hg hRa HRD5 hda3 hda8 ha3 ha8
                obtain ⟨c0, c1, c2, c3⟩ := HR6.out.c
                go_wp2_with fail
                clear c0 c1 c2 c3
                refine (peek_q rb s a8 0 i Z6 HR6.out hs0).mono ?_
                rintro e Z7 ⟨rfl, hR, hg, -⟩
                have HJ7 := Lib.hid (HJ6.out.kept hg)
                have HM7 := Lib.hid (HM6.out.grown hg HNE.out)
                have HR7 := Lib.hid hR
                clear hR hg HJ6 HR6 HM6
                by_cases hp4 : pk s a8 = 44
                · have hpb : (pk s a8 == 44) = true := by simpa using hp4
                  have HLT : Hid (a8 < s.size) := Lib.hid (Classical.byContradiction fun hn => by rw [pk_ge (by omega)] at hp4; omega)
                  have HEL : Hid (fldP g (acc ++ [F.mk (stB nm) v9]) (skipW (dr s (a8 + 1))) = y0) := Lib.hid (by
                    have h1 := HMO.out
                    rw [if_pos HLT.out, if_pos hp4] at h1
                    rw [← HY.out, fl_ok HYT.out HBB.out HSG.out HV.out h1, if_pos rfl])
                  clear hp4
                  obtain ⟨c0, c1, c2, c3⟩ := HR7.out.c
                  have z1 := HR7.out.z 1
                  have hg := gr_set Z7 rb 1 (.int .i64 ((a8 : Int) + 1))
                  have HR8 : Hid (RD (Z7.setCell ⟨rb, 1, none⟩ (.int .i64 ((a8 : Int) + 1))) rb s (a8 + 1) 0 i) := Lib.hid (HR7.out.next (a8 + 1))
                  have HJ8 := Lib.hid (HJ7.out.kept hg)
                  have HM8 := Lib.hid (HM7.out.grown hg HNE.out)
                  clear hg
                  go_wp2_with fail
                  clear c0 c1 c2 c3 z1 HR7 HJ7 HM7
                  generalize Z7.setCell ⟨rb, 1, none⟩ (.int .i64 ((a8 : Int) + 1)) = Z8 at *
                  refine (blanks_at rb s (a8 + 1) 0 i Z8 HR8.out hs0 HLT.out).mono ?_
                  rintro e Z9 ⟨rfl, a6, ha6, hda6, hR, hg⟩
                  have HJ9 := Lib.hid (HJ8.out.kept hg)
                  have HM9 := Lib.hid (HM8.out.grown hg HNE.out)
                  have HR9 := Lib.hid hR
                  have HQ6 : Hid (b < a6) := Lib.hid (by
                    have h1 := skipW_len (dr s (a8 + 1))
                    rw [← hda6, dr_len ha6, dr_len (show a8 + 1 ≤ s.size from HLT.out)] at h1
                    have := HQ8.out
                    have := HLT.out
                    have := HBS.out
                    omega)
                  rw [← hda6] at HEL
                  have HMM := Lib.hid (meas hR)
                  have HMX := Lib.hid (meas HR.out)
                  clear hR hg hda6 HR8 HJ8 HM8
                  go_wp2_with fail
                  go_roundw
                  case rel => exact ⟨acc ++ [F.mk (stB nm) v9], a6, g, a5, LN, q5, _, _, ha6, Lib.hid (by have := HLA.out; have := HQ6.out; omega), Lib.hid (by have := HGB.out; have := HQ6.out; omega), Lib.hid (by have := HGF.out; omega), HEL, HJ9, HM9, HDN, HR9⟩
                  case measure => rw [HMM.out, HMX.out]; have := HQ6.out; omega
                · have hpb : (pk s a8 == 44) = false := by simpa using hp4
                  by_cases hp9 : ∃ h : a8 < s.size, (s[a8].toNat : Int) = 125
                  · obtain ⟨hlt, hc9⟩ := hp9
                    have HLT := Lib.hid hlt
                    have HC9 := Lib.hid hc9
                    have HXO : Hid (x = .ok (obj (putAll [] (acc ++ [F.mk (stB nm) v9]))) (dr s (a8 + 1))) := Lib.hid (by
                      have h1 := HMO.out
                      rw [if_pos hlt, if_neg hp4, if_pos (by rw [pk_lt hlt, hc9]; rfl)] at h1
                      rw [HXE.out, ← HY.out, fl_ok HYT.out HBB.out HSG.out HV.out h1, if_neg (by decide)]; rfl)
                    clear hp4 hc9
                    go_wp2_with fail
                    refine (sign_ok rb s a8 i 125 Z7 HR7.out hs0 HLT.out HC9.out).mono ?_
                    rintro e Z8 ⟨rfl, hR, hg⟩
                    have HJZ := Lib.hid (HJ7.out.kept hg)
                    have HAX : Hid (AftS s rb i w Z8 x) := Lib.hid (by rw [HXO.out]; exact ⟨a8 + 1, HLT.out, rfl, hR, HJZ.out.gr⟩)
                    have HVX : Hid (∀ u r, x = .ok u r → obj (putAll [] (acc ++ [F.mk (stB nm) v9])) = u) := Lib.hid (fun u r e => by rw [HXO.out] at e; cases e; rfl)
                    clear hR hg
                    have hv4 : Z8.cell? ⟨vb, 4, none⟩ = some (.slice a5 LN q5) := HJZ.out.rv.cell 4
                    go_wp2_with fail
                    refine (sortFld_at (mb + 1) Z8 (acc ++ [F.mk (stB nm) v9]) (HLB.out) (.slice a5 LN q5) _ (er_top HJZ.out.er)).mono ?_
                    rintro e ZS ⟨rfl, S, ES, hperm, hsort, hT, hg⟩
                    have hSP : S = putAll [] (acc ++ [F.mk (stB nm) v9]) := sorted_put hperm hsort HDZ.out
                    obtain ⟨hJS, hAS⟩ := lo_sorted HJZ.out hT hg
                    have HJS := Lib.hid hJS
                    have HAS := Lib.hid (hAS HAX.out)
                    have HSP := Lib.hid hSP
                    clear hperm hsort hT hg hJS hAS hSP hv4
                    obtain ⟨d0, d1, d2, d3, d4⟩ := va5 HJS.out.rv
                    have HFI : Hid (ValPost s rb i w x (.returned (.agg (vAr 5 0 eB (.slice none 0 0) (.slice a5 LN q5)))) (ZS.setRow w.heap.size (vAr 5 0 eB (.slice none 0 0) (.slice a5 LN q5)))) := Lib.hid ⟨obj S, _, rfl, ((lo_obj HJS.out).keep (by rw [setRow_size]; exact Nat.le_refl _) (fun q _ hq => setRow_other _ _ _ _ (by omega))).mono (fun q _ hq => Nat.le_of_lt hq), (fun u r e => by rw [HSP.out]; exact HVX.out u r e), HAS.out.row (Nat.le_refl _) (by have := HRB.out; omega) _⟩
                    go_wp2_with (refine wpList_store_row rfl _ _ _ rfl w.heap.size (vAr 5 0 eB (.slice none 0 0) (.slice a5 LN q5)) rfl rfl _ _ HJS.out.rr (v_inf5 _ _ _ _ _) rfl (v_all5 _ _ _ _ _ _ _ _ _) ?_)
                    (try simp only [Exit.inBlock, Exit.then])
                    refine bodyPost_ret (v := .agg (vAr 5 0 eB (.slice none 0 0) (.slice a5 LN q5))) (results_cell_row rfl _ _ _ _ _ _ _ rfl (HJS.out.rr.row _) Tryz.underlying25 rfl (v_inf5 _ _ _ _ _)) rfl HFI.out
                  · have hc9 : ∀ h : a8 < s.size, (s[a8].toNat : Int) ≠ 125 := fun h e => hp9 ⟨h, e⟩
                    have HC9 := Lib.hid hc9
                    have HXB : Hid (x = .bad (dr s a8) 10) := Lib.hid (by
                      have h1 := HMO.out
                      by_cases hlt : a8 < s.size
                      · rw [if_pos hlt, if_neg hp4, if_neg (by rw [pk_lt hlt]; exact hc9 hlt)] at h1
                        rw [HXE.out, ← HY.out, fl_more HYT.out HBB.out HSG.out HV.out h1]; rfl
                      · rw [if_neg hlt] at h1
                        rw [HXE.out, ← HY.out, fl_more HYT.out HBB.out HSG.out HV.out h1]; rfl)
                    clear hp4 hc9 hp9
                    go_wp2_with fail
                    refine (sign_no rb s a8 i 125 Z7 HR7.out hs0 HA8.out HC9.out).mono ?_
                    rintro e Z8 ⟨rfl, hR, hg⟩
                    have HJZ := Lib.hid (HJ7.out.kept hg)
                    have HAX : Hid (AftS s rb i w Z8 x) := Lib.hid (by rw [HXB.out]; exact BadS.at hR HA8.out HJZ.out.gr)
                    have HVX : Hid (∀ u r, x = .ok u r → obj (putAll [] (acc ++ [F.mk (stB nm) v9])) = u) := Lib.hid (fun u r e => by rw [HXB.out] at e; cases e)
                    clear hR hg
                    have hv4 : Z8.cell? ⟨vb, 4, none⟩ = some (.slice a5 LN q5) := HJZ.out.rv.cell 4
                    go_wp2_with fail
                    refine (sortFld_at (mb + 1) Z8 (acc ++ [F.mk (stB nm) v9]) (HLB.out) (.slice a5 LN q5) _ (er_top HJZ.out.er)).mono ?_
                    rintro e ZS ⟨rfl, S, ES, hperm, hsort, hT, hg⟩
                    have hSP : S = putAll [] (acc ++ [F.mk (stB nm) v9]) := sorted_put hperm hsort HDZ.out
                    obtain ⟨hJS, hAS⟩ := lo_sorted HJZ.out hT hg
                    have HJS := Lib.hid hJS
                    have HAS := Lib.hid (hAS HAX.out)
                    have HSP := Lib.hid hSP
                    clear hperm hsort hT hg hJS hAS hSP hv4
                    obtain ⟨d0, d1, d2, d3, d4⟩ := va5 HJS.out.rv
                    have HFI : Hid (ValPost s rb i w x (.returned (.agg (vAr 5 0 eB (.slice none 0 0) (.slice a5 LN q5)))) (ZS.setRow w.heap.size (vAr 5 0 eB (.slice none 0 0) (.slice a5 LN q5)))) := Lib.hid ⟨obj S, _, rfl, ((lo_obj HJS.out).keep (by rw [setRow_size]; exact Nat.le_refl _) (fun q _ hq => setRow_other _ _ _ _ (by omega))).mono (fun q _ hq => Nat.le_of_lt hq), (fun u r e => by rw [HSP.out]; exact HVX.out u r e), HAS.out.row (Nat.le_refl _) (by have := HRB.out; omega) _⟩
                    go_wp2_with (refine wpList_store_row rfl _ _ _ rfl w.heap.size (vAr 5 0 eB (.slice none 0 0) (.slice a5 LN q5)) rfl rfl _ _ HJS.out.rr (v_inf5 _ _ _ _ _) rfl (v_all5 _ _ _ _ _ _ _ _ _) ?_)
                    (try simp only [Exit.inBlock, Exit.then])
                    refine bodyPost_ret (v := .agg (vAr 5 0 eB (.slice none 0 0) (.slice a5 LN q5))) (results_cell_row rfl _ _ _ _ _ _ _ rfl (HJS.out.rr.row _) Tryz.underlying25 rfl (v_inf5 _ _ _ _ _)) rfl HFI.out
          · have hc2 : ∀ h : a2 < s.size, (s[a2].toNat : Int) ≠ 58 := fun h e => hc ⟨h, e⟩
            have HC := Lib.hid hc2
            have HXB : Hid (x = .bad (dr s a2) 10) := Lib.hid (by
              have h9 := sign_not (c := 58) hc2
              rw [HD2.out] at h9
              rw [HXE.out, ← HY.out, fl_sign HYT.out HBB.out h9, HD2.out]; rfl)
            clear hc hc2
            go_wp2_with fail
            refine (sign_no rb s a2 i 58 Z2 HR2.out hs0 HA2.out HC.out).mono ?_
            rintro e Z3 ⟨rfl, hR, hg⟩
            have HR3 := Lib.hid hR
            have HJ3 := Lib.hid (HJ2.out.kept hg)
            clear hR hg
            go_wp2_with fail
            refine (blanks_at rb s a2 10 (a2 : Int) Z3 HR3.out hs0 HA2.out).mono ?_
            rintro e Z4 ⟨rfl, a5, ha5, -, hR, hg⟩
            have HR5 := Lib.hid hR
            have HJZ := Lib.hid (HJ3.out.kept hg)
            have HAX : Hid (AftS s rb i w Z4 x) := Lib.hid (by rw [HXB.out]; exact ⟨a5, ha5, by decide, by rw [sub_len HA2.out]; exact hR, HJZ.out.gr⟩)
            have HVX : Hid (∀ u r, x = .ok u r → obj (putAll [] acc) = u) := Lib.hid (fun u r e => by rw [HXB.out] at e; cases e)
            have HDZ : Hid (DistF acc) := Lib.hid HDS.out.2
            clear hR hg ha5
            obtain ⟨c0, c1, c2, c3⟩ := HR5.out.c
            have hv4 : Z4.cell? ⟨vb, 4, none⟩ = some (.slice av LV cv) := HJZ.out.rv.cell 4
            go_wp2_with fail
            refine (sortFld_at (mb + 1) Z4 acc (by have := HAL.out; have := HBS.out; omega) (.slice av LV cv) _ (er_top HJZ.out.er)).mono ?_
            rintro e ZS ⟨rfl, S, ES, hperm, hsort, hT, hg⟩
            have hSP : S = putAll [] acc := sorted_put hperm hsort HDZ.out
            obtain ⟨hJS, hAS⟩ := lo_sorted HJZ.out hT hg
            have HJS := Lib.hid hJS
            have HAS := Lib.hid (hAS HAX.out)
            have HSP := Lib.hid hSP
            clear hperm hsort hT hg hJS hAS hSP hv4
            obtain ⟨d0, d1, d2, d3, d4⟩ := va5 HJS.out.rv
            have HFI : Hid (ValPost s rb i w x (.returned (.agg (vAr 5 0 eB (.slice none 0 0) (.slice av LV cv)))) (ZS.setRow w.heap.size (vAr 5 0 eB (.slice none 0 0) (.slice av LV cv)))) := Lib.hid ⟨obj S, _, rfl, ((lo_obj HJS.out).keep (by rw [setRow_size]; exact Nat.le_refl _) (fun q _ hq => setRow_other _ _ _ _ (by omega))).mono (fun q _ hq => Nat.le_of_lt hq), (fun u r e => by rw [HSP.out]; exact HVX.out u r e), HAS.out.row (Nat.le_refl _) (by have := HRB.out; omega) _⟩
            go_wp2_with (refine wpList_store_row rfl _ _ _ rfl w.heap.size (vAr 5 0 eB (.slice none 0 0) (.slice av LV cv)) rfl rfl _ _ HJS.out.rr (v_inf5 _ _ _ _ _) rfl (v_all5 _ _ _ _ _ _ _ _ _) ?_)
            (try simp only [Exit.inBlock, Exit.then])
            refine bodyPost_ret (v := .agg (vAr 5 0 eB (.slice none 0 0) (.slice av LV cv))) (results_cell_row rfl _ _ _ _ _ _ _ rfl (HJS.out.rr.row _) Tryz.underlying25 rfl (v_inf5 _ _ _ _ _)) rfl HFI.out
end Fd
end Go.Proofs.YtbhcfmdogdaodaaGreatDoor
