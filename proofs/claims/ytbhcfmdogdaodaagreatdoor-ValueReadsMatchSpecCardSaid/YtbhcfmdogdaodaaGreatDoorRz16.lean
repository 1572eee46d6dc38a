/- list of the program's reader. Printed by gen_rdj.py. -/
import Derived.Test.YtbhcfmdogdaodaaGreatDoorRz15
import Derived.Test.YtbhcfmdogdaodaaGreatDoorRz04
import Derived.Deep.RegionWith
namespace Go.Proofs.YtbhcfmdogdaodaaGreatDoor
open Go.RowKit
namespace Fd
open _root_.Go.Proofs.YtbhcfmdogdaodaaGreatDoor.Nm
open _root_.Go.Proofs.YtbhcfmdogdaodaaGreatDoor.Nt (RH RH.cell RH.box RH.lt RH.new RH.ext RH.fre RH.set RH.other)
open _root_.Go.Proofs.YtbhcfmdogdaodaaGreatDoor.Nt (RH.row RH.row_other RH.set_other)
open _root_.Go.Proofs.YtbhcfmdogdaodaaGreatDoor.Rw (All2 All2.get All2.length All2.mono All2.append Fresh fresh_own Kept wp_stored)
open _root_.Go.Proofs.YtbhcfmdogdaodaaGreatDoor.Tx (stB)
/-- the call's variable, its result's box and its row -/
structure LJ {α : Type} (R : World → α → List Value → Prop) (e k : Nat) (A : Value → Array Value) (rb : Nat) (w : World) (vb N : Nat) (X : World) (l : List α) (v : Value) (E : List (List Value)) : Prop where
  rv : RH X vb (A v) 25
  rr : RH X w.heap.size (vAr 0 0 eB (.slice none 0 0) (.slice none 0 0)) 25
  lt : w.heap.size < vb
  lrb : rb < w.heap.size
  vn : vb < N
  er : ER R e k N X l v E
  gr : w.grownBy X (some rb)
section
variable {α : Type} {R : World → α → List Value → Prop} {e k : Nat} {A : Value → Array Value} {rb vb N : Nat} {w X X' : World} {l : List α} {v : Value} {E : List (List Value)}
theorem LJ.kept (h : LJ R e k A rb w vb N X l v E) (hg : X.grownBy X' (some rb)) : LJ R e k A rb w vb N X' l v E :=
  ⟨Rw.rh_grown h.rv hg (fun e => by have := Option.some.inj e; have := h.lt; have := h.lrb; omega), Rw.rh_grown h.rr hg (fun e => by have := Option.some.inj e; have := h.lrb; omega), h.lt, h.lrb, h.vn, h.er.kept hg (by have := h.lt; have := h.lrb; have := h.vn; omega), h.gr.trans hg⟩
theorem LJ.below (h : LJ R e k A rb w vb N X l v E) (hb : Below X.heap.size X X') : LJ R e k A rb w vb N X' l v E := h.kept (gr_below hb _)
end
theorem gr_cell {w X : World} {r : Option Nat} {b : Nat} (h : w.grownBy X r) (hb : w.heap.size ≤ b) (j : Nat) (u : Value) : w.grownBy (X.setCell ⟨b, j, none⟩ u) r :=
  ⟨h.os, h.tape, h.output, by simpa using h.size, fun k hk hr => (heap_setCell_other X ⟨b, j, none⟩ k u (by show k ≠ b; omega)).trans (h.block k hk hr)⟩
/-- behind the append and the store of it -/
theorem lj_step {α : Type} {R : World → α → List Value → Prop} {e k : Nat} {A : Value → Array Value} {rb vb N : Nat} {w X Y : World} {l l' : List α} {v v' : Value} {E E' : List (List Value)} {j : Nat} (h : LJ R e k A rb w vb N X l v E) (hA : ∀ u u', (A u).setIfInBounds j u' = A u')
    (hE : ER R e k N Y l' v' E') (hg : X.grownBy Y v.ownBlock) : LJ R e k A rb w vb N (Y.setCell ⟨vb, j, none⟩ v') l' v' E' ∧ ∀ (s : ByteArray) (at_ : Nat) (er p : Int), RD X rb s at_ er p → RD (Y.setCell ⟨vb, j, none⟩ v') rb s at_ er p := by
  have hlt := h.lt
  have hrb := h.lrb
  have hvn := h.vn
  have h1 := Rw.rh_grown h.rv hg (h.er.ne (by omega))
  have h2 := Rw.rh_grown h.rr hg (h.er.ne (by omega))
  have h3 : Y.grownBy (Y.setCell ⟨vb, j, none⟩ v') (some vb) := gr_set Y vb j v'
  refine ⟨⟨?_, RH.set_other h2 (by show w.heap.size ≠ vb; omega) _, h.lt, h.lrb, h.vn, hE.kept h3 (by omega), gr_cell (gr_own h.gr hg (fun q hq => by have := (h.er.ge q hq).1; omega)) (by omega) _ _⟩, fun s a er p hR => ?_⟩
  · have := RH.set h1 j v'
    rwa [hA] at this
  · exact RH.set_other (hR.grown hg (h.er.ne (by omega))) (by show rb ≠ vb; omega) _
/-- a block between the variable and the row is written -/
theorem LJ.turn {α : Type} {R : World → α → List Value → Prop} {e k : Nat} {A : Value → Array Value} {rb vb N mb : Nat} {w X X' : World} {l : List α} {v : Value} {E : List (List Value)} (h : LJ R e k A rb w vb N X l v E) (hg : X.grownBy X' (some mb)) (h1 : vb < mb) (h2 : mb < N) : LJ R e k A rb w vb N X' l v E :=
  ⟨Rw.rh_grown h.rv hg (fun e => by have := Option.some.inj e; omega), Rw.rh_grown h.rr hg (fun e => by have := Option.some.inj e; have := h.lt; omega), h.lt, h.lrb, h.vn, h.er.kept hg h2, gr_own h.gr hg (fun q hq => by have := Option.some.inj hq; have := h.lt; omega)⟩
theorem AftS.gr {s : ByteArray} {rb : Nat} {i : Int} {w w' : World} {α : Type} {x : Res α} (h : AftS s rb i w w' x) : w.grownBy w' (some rb) := aft_g h
theorem AftS.ext {s : ByteArray} {rb : Nat} {i : Int} {w w' w2 : World} {α : Type} {x : Res α} (h : AftS s rb i w w' x) (hb : Below w'.heap.size w' w2) : AftS s rb i w w2 x := by
  cases x with
  | ok v r =>
    obtain ⟨a, h1, h2, h3, h4⟩ := h
    exact ⟨a, h1, h2, h3.ext hb, h4.trans (gr_below hb _)⟩
  | bad q er =>
    obtain ⟨a, h1, h2, h3, h4⟩ := h
    exact ⟨a, h1, h2, h3.ext hb, h4.trans (gr_below hb _)⟩
/-- a temporary that holds a value just read -/
def TPv (D : Nat → Prop) (s : ByteArray) (rb : Nat) (i : Int) (w : World) (y : Res V) : TP where
  p W u := ∃ (v : V) (c : List Value), u = .agg c.toArray ∧ On D (fun Z => RepV Z v c) W ∧ (∀ t r, y = .ok t r → v = t) ∧ AftS s rb i w W y
  gr := by
    rintro W W' u hb ⟨v, c, h1, h2, h3, h4⟩
    exact ⟨v, c, h1, h2.below hb, h3, h4.ext hb⟩
/-- a temporary that holds the slice of one such value -/
def TPs (D : Nat → Prop) (base : Nat) (y : Res V) : TP where
  p W u := ∃ (v : V) (c : List Value) (B : Nat), u = .slice (some ⟨B, 0, none⟩) 1 1 ∧ base ≤ B ∧ RH W B c.toArray 25 ∧ On D (fun Z => RepV Z v c) W ∧ (∀ t r, y = .ok t r → v = t)
  gr := by
    rintro W W' u hb ⟨v, c, B, h1, h2, h3, h4, h5⟩
    exact ⟨v, c, B, h1, h2, h3.ext hb, h4.below hb, h5⟩
theorem elsP_ok {f : Nat} {acc : List V} {l q t : List UInt8} {x : V} {b : Bool} (h1 : valP f l = .ok x q) (h2 : moreP 93 q = .ok b t) : elsP (f + 1) acc l = if b = true then elsP f (acc ++ [x]) t else .ok (acc ++ [x]) t := by
  rw [elsP, h1]
  simp only [h2]
  cases b <;> rfl
theorem elsP_bad1 {f : Nat} {acc : List V} {l q : List UInt8} {e : Int} (h1 : valP f l = .bad q e) : elsP (f + 1) acc l = .bad q e := by rw [elsP, h1]
theorem elsP_bad2 {f : Nat} {acc : List V} {l q t : List UInt8} {x : V} {e : Int} (h1 : valP f l = .ok x q) (h2 : moreP 93 q = .bad t e) : elsP (f + 1) acc l = .bad t e := by
  rw [elsP, h1]
  simp only [h2]
theorem moreP_at {c : UInt8} {q : List UInt8} {s : ByteArray} {a : Nat} (h : dr s a = skipW q) : moreP c q = if a < s.size then (if pk s a = 44 then .ok true (skipW (dr s (a + 1))) else if pk s a = (c.toNat : Int) then .ok false (dr s (a + 1)) else .bad (dr s a) 10) else .bad (dr s a) 10 := by
  unfold moreP
  rw [← h]
  by_cases hlt : a < s.size
  · rw [if_pos hlt, pk_lt hlt, dr_lt hlt]
    simp only []
    by_cases h1 : s[a] = 44
    · have e1 : (s[a].toNat : Int) = 44 := by rw [h1]; rfl
      simp only [if_pos h1, if_pos e1]
    · have e1 : ¬ (s[a].toNat : Int) = 44 := fun e => h1 (UInt8.toNat_inj.1 (by show _ = 44; omega))
      by_cases h2 : s[a] = c
      · have e2 : (s[a].toNat : Int) = (c.toNat : Int) := by rw [h2]
        simp only [if_neg h1, if_neg e1, if_pos h2, if_pos e2]
      · have e2 : ¬ (s[a].toNat : Int) = (c.toNat : Int) := fun e => h2 (UInt8.toNat_inj.1 (by omega))
        simp only [if_neg h1, if_neg e1, if_neg h2, if_neg e2]
  · rw [if_neg hlt, dr_ge (by omega)]
/-- a list's value -/
def lsV (l : List V) : V := .mk 4 0 ByteArray.empty l []
/-- what list takes -/
def lstP (f : Nat) (r : List UInt8) : Res V := match skipW r with
  | [] => (elsP f [] []).bind fun is q => .ok (lsV is) q
  | b :: q => if b = 93 then .ok (lsV []) q else (elsP f [] (b :: q)).bind fun is t => .ok (lsV is) t
theorem lstP_end {f : Nat} {r : List UInt8} {s : ByteArray} {a : Nat} (h : dr s a = skipW r) (h1 : pk s a = 93) : a < s.size ∧ lstP f r = .ok (lsV []) (dr s (a + 1)) := by
  have hlt : a < s.size := Classical.byContradiction fun hn => by rw [pk_ge (by omega)] at h1; omega
  refine ⟨hlt, ?_⟩
  unfold lstP
  rw [← h, dr_lt hlt]
  rw [pk_lt hlt] at h1
  exact if_pos (UInt8.toNat_inj.1 (by show _ = 93; omega))
theorem lstP_els {f : Nat} {r : List UInt8} {s : ByteArray} {a : Nat} (h : dr s a = skipW r) (h1 : pk s a ≠ 93) : lstP f r = (elsP f [] (dr s a)).bind fun is q => .ok (lsV is) q := by
  unfold lstP
  rw [← h]
  by_cases hlt : a < s.size
  · rw [pk_lt hlt] at h1
    rw [dr_lt hlt]
    exact if_neg (fun e => h1 (by rw [e]; rfl))
  · rw [dr_ge (by omega)]
/-- a list of the call's own -/
theorem lj_list {rb vb : Nat} {w X : World} {l : List V} {v : Value} {E : List (List Value)} (h : LJ RepV 25 5 (fun u => vAr 4 0 eB u (.slice none 0 0)) rb w vb (vb + 1) X l v E) : On (fun q => w.heap.size < q) (fun Z => RepV Z (lsV l) [.int .i64 4, .int .i64 0, .string eB, v, .slice none 0 0]) X := fun Z hZ => by
  obtain ⟨h1, h2⟩ := h.er.on Z (fun q hq hD => hZ q hq (by have := h.lt; omega))
  exact rep_mk (k := 4) (n := 0) (s := ByteArray.empty) (fs := []) (E := []) ⟨by unfold i64ok; omega, by unfold i64ok; omega, by decide⟩ h1 h2 (Sl.nil Z) trivial
abbrev LV (rb : Nat) (w : World) (vb : Nat) (X : World) (l : List V) (v : Value) (E : List (List Value)) : Prop := LJ RepV 25 5 (fun u => vAr 4 0 eB u (.slice none 0 0)) rb w vb (vb + 1) X l v E
set_option maxRecDepth 100000 in
set_option maxHeartbeats 8000000 in
theorem list_at (rb : Nat) (s : ByteArray) (a f : Nat) (i : Int) (w : World) (h : RD w rb s a 0 i) (hs : s.size ≤ 1000000) (ha : a < s.size) (hf : 2 * (s.size - (a + 1)) + 2 ≤ f) (HI : ∀ g, g < f → ValAt s rb i g) : Calls Tryz.prog 20 #[.pointer (some ⟨rb, 0, none⟩)] w (ValPost s rb i w (lstP f (dr s (a + 1)))) := by
  have hs1 : (s.size : Int) ≤ 1000000 := by omega
  have hai : (a : Int) ≤ 1000000 := by omega
  have HR := Lib.hid h
  have HVA := Lib.hid HI
  have HRB : Hid (rb < w.heap.size) := Lib.hid h.lt
  obtain ⟨x, hx⟩ : ∃ x, lstP f (dr s (a + 1)) = x := ⟨_, rfl⟩
  have HX := Lib.hid hx
  have HA := Lib.hid ha
  have HF := Lib.hid hf
  rw [hx]
  clear h hx ha HI hf
  go_enter Tryz.func20, Tryz.ntmps20
  go_upto_region 1 with (fail)
  refine Tx.wp_vr1 fun W hbW hR1 => ?_
  have HRW := Lib.hid (HR.out.ext hbW)
  have HGW := Lib.hid (gr_below hbW (some rb))
  have HQW := Lib.hid hR1
  clear hbW hR1 HR
  go_upto_region 2 with (refine wpList_store_row rfl _ _ _ rfl W.heap.size (vAr 4 0 eB (.slice none 0 0) (.slice none 0 0)) rfl rfl _ _ (RH.new _ _ _) (v_inf5 _ _ _ _ _) rfl (v_all5 _ _ _ _ _ _ _ _ _) ?_)
  refine wp_stored fun Y hbY hRv => ?_
  obtain ⟨vb, hvb⟩ : ∃ vb, W.heap.size = vb := ⟨_, rfl⟩
  have HR0 := Lib.hid (HRW.out.ext hbY)
  have HJ0 : Hid (LV rb w vb Y [] (.slice none 0 0) []) := Lib.hid ⟨hvb ▸ hRv, HQW.out.ext hbY, hvb ▸ HQW.out.lt, HRB.out, Nat.lt_succ_self _, ER.nil Y _, HGW.out.trans (gr_below hbY (some rb))⟩
  rw [hvb]
  clear hbY hRv HRW HGW HQW hvb
  obtain ⟨c0, c1, c2, c3⟩ := HR0.out.c
  have z1 := HR0.out.z 1
  have hg := gr_set Y rb 1 (.int .i64 ((a : Int) + 1))
  have HR1 : Hid (RD (Y.setCell ⟨rb, 1, none⟩ (.int .i64 ((a : Int) + 1))) rb s (a + 1) 0 i) := Lib.hid (HR0.out.next (a + 1))
  have HJ1 := Lib.hid (HJ0.out.kept hg)
  clear hg
  go_wp2_with fail
  clear c0 c1 c2 c3 z1 HR0 HJ0
  generalize Y.setCell ⟨rb, 1, none⟩ (.int .i64 ((a : Int) + 1)) = Y1 at *
  refine (blanks_at rb s (a + 1) 0 i Y1 HR1.out hs HA.out).mono ?_
  rintro e Y2 ⟨rfl, b, hb, hbd, hR, hg⟩
  have HR2 := Lib.hid hR
  have HJ2 := Lib.hid (HJ1.out.kept hg)
  have HB := Lib.hid hb
  have HBD := Lib.hid hbd
  have HBA : Hid (s.size - b ≤ s.size - (a + 1)) := Lib.hid (by
    have := skipW_len (dr s (a + 1))
    rw [← hbd, dr_len hb, dr_len HA.out] at this
    exact this)
  have hbi : (b : Int) ≤ 1000000 := by omega
  clear hR hg HR1 HJ1 hb hbd
  go_wp2_with fail
  refine (peek_q rb s b 0 i Y2 HR2.out hs).mono ?_
  rintro e Y3 ⟨rfl, hR, hg, -⟩
  have HR3 := Lib.hid hR
  have HJ3 := Lib.hid (HJ2.out.kept hg)
  clear hR hg HR2 HJ2
  by_cases hp : pk s b = 93
  · have hpb : (pk s b == 93) = true := by simpa using hp
    have HE := Lib.hid (lstP_end (f := f) HBD.out hp)
    have HXO : Hid (x = .ok (lsV []) (dr s (b + 1))) := Lib.hid (HX.out.symm.trans HE.out.2)
    clear hp
    obtain ⟨c0, c1, c2, c3⟩ := HR3.out.c
    have z1 := HR3.out.z 1
    have hg := gr_set Y3 rb 1 (.int .i64 ((b : Int) + 1))
    have HR4 : Hid (RD (Y3.setCell ⟨rb, 1, none⟩ (.int .i64 ((b : Int) + 1))) rb s (b + 1) 0 i) := Lib.hid (HR3.out.next (b + 1))
    have HJ4 := Lib.hid (HJ3.out.kept hg)
    clear hg
    go_upto_region 6 with (fail)
    clear c0 c1 c2 c3 z1 HR3 HJ3
    generalize Y3.setCell ⟨rb, 1, none⟩ (.int .i64 ((b : Int) + 1)) = Z at *
    have HAX : Hid (AftS s rb i w Z x) := Lib.hid (by rw [HXO.out]; exact ⟨b + 1, HE.out.1, rfl, HR4.out, HJ4.out.gr⟩)
    have HVX : Hid (∀ u r, x = .ok u r → lsV [] = u) := Lib.hid (fun u r e => by rw [HXO.out] at e; cases e; rfl)
    have HJZ := HJ4
    obtain ⟨d0, d1, d2, d3, d4⟩ := va5 HJZ.out.rv
    have HF : Hid (ValPost s rb i w x (.returned (.agg (vAr 4 0 eB (.slice none 0 0) (.slice none 0 0)))) (Z.setRow w.heap.size (vAr 4 0 eB (.slice none 0 0) (.slice none 0 0)))) := Lib.hid ⟨lsV [], _, rfl, ((lj_list HJZ.out).keep (by rw [setRow_size]; exact Nat.le_refl _) (fun q _ hq => setRow_other _ _ _ _ (by omega))).mono (fun q _ hq => Nat.le_of_lt hq), HVX.out, HAX.out.row (Nat.le_refl _) (by have := HRB.out; omega) _⟩
    go_wp2_with (refine wpList_store_row rfl _ _ _ rfl w.heap.size (vAr 4 0 eB (.slice none 0 0) (.slice none 0 0)) rfl rfl _ _ HJZ.out.rr (v_inf5 _ _ _ _ _) rfl (v_all5 _ _ _ _ _ _ _ _ _) ?_)
    (try simp only [Exit.inBlock, Exit.then])
    refine bodyPost_ret (v := .agg (vAr 4 0 eB (.slice none 0 0) (.slice none 0 0))) (results_cell_row rfl _ _ _ _ _ _ _ rfl (HJZ.out.rr.row _) Tryz.underlying25 rfl (v_inf5 _ _ _ _ _)) rfl HF.out
  · have hpb : (pk s b == 93) = false := by simpa using hp
    obtain ⟨y0, hy0⟩ : ∃ y0, elsP f [] (dr s b) = y0 := ⟨_, rfl⟩
    have HXE := Lib.hid (HX.out.symm.trans (lstP_els (f := f) HBD.out hp))
    rw [hy0] at HXE
    have HY0 := Lib.hid hy0
    have HFB : Hid (2 * (s.size - b) + 2 ≤ f) := Lib.hid (by have := HF.out; have := HBA.out; omega)
    have HFF : Hid (f ≤ f) := Lib.hid (Nat.le_refl _)
    have HAL : Hid (([] : List V).length ≤ b) := Lib.hid (Nat.zero_le _)
    have hqb : b ≤ s.size := HB.out
    clear hp hy0 HX HBD HBA HF
    go_wp2_with fail
    go_loopw [25] (fun _ wr => ∃ (acc : List V) (b g : Nat) (v : Value) (E : List (List Value)), b ≤ s.size ∧ Hid (acc.length ≤ b) ∧ Hid (2 * (s.size - b) + 2 ≤ g) ∧ Hid (g ≤ f) ∧ Hid (elsP g acc (dr s b) = y0) ∧ Hid (LV rb w vb wr acc v E) ∧ Hid (RD wr rb s b 0 i)) (fun _ wr => s.size - (intOf ((wr.cell? ⟨rb, 1, none⟩).getD undef)).toNat)
    case atStart => exact ⟨[], b, f, _, [], hqb, HAL, HFB, HFF, HY0, HJ3, HR3⟩
    case round =>
      clear HAL HFB HFF HY0 HJ3 HR3 HB hbi hqb hpb
      obtain ⟨acc, b, g, v, E, hbs, HAL, HGB, HGF, HY, HJ, HR⟩ := hrel
      cases g with
      | zero => have := HGB.out; omega
      | succ g =>
      generalize hXX : wr = X at *
      clear hXX
      have HBS := Lib.hid hbs
      have hbi : (b : Int) ≤ 1000000 := by omega
      clear hbs
      obtain ⟨y, hy⟩ : ∃ y, valP g (dr s b) = y := ⟨_, rfl⟩
      have HV := Lib.hid hy
      have HVC : Hid (∀ W', Below X.heap.size X W' → Calls Tryz.prog 8 #[.pointer (some ⟨rb, 0, none⟩)] W' (ValPost s rb i W' y)) := Lib.hid (fun W' hW => by
        have := HVA.out g (by have := HGF.out; omega) b W' (HR.out.ext hW) HBS.out (by have := HGB.out; omega)
        rw [hy] at this
        exact this)
      clear hy
      obtain ⟨c0, c1, c2, c3⟩ := HR.out.c
      go_upto_region 8 with (fail)
      have hv0 : X.cell? ⟨vb, 3, none⟩ = some v := HJ.out.rv.cell 3
      refine GrowB.wp_region_growb (rB := some rb) 5 3 [TP.eq (.pointer (some ⟨vb, 3, none⟩)), TP.eq v, TP.eq (.pointer (some ⟨rb, 0, none⟩)), TPv (fun q => vb + 1 ≤ q ∧ v.ownBlock ≠ some q) s rb i w y, TPs (fun q => vb + 1 ≤ q ∧ v.ownBlock ≠ some q) (vb + 1) y] [[], [0], [], [2], [3]] (by kernel_rfl) (by kernel_rfl) ?hst ⟨?o0e, ?o1e, ?o2e, ?o3e, ?o4e, trivial⟩ ?tle
      case hst =>
        intro j hj hjc W1 W2 u hg hu
        match j, hj, hjc with
        | 0, _, _ => exact hu
        | 1, _, _ => exact hu
        | 2, _, _ => exact hu
        | 4, _, _ =>
          obtain ⟨v1, c1, B1, h1, h2, h3, h4, h5⟩ := hu
          have hlt := HJ.out.lt
          have hrb := HJ.out.lrb
          exact ⟨v1, c1, B1, h1, h2, Rw.rh_grown h3 hg (fun e => by have := Option.some.inj e; omega), On.grownBy h4 hg (fun q _ hq e => by have := Option.some.inj e; omega), h5⟩
      case o0e =>
        intro w' hb
        show wpList _ _ _ _ _ _
        go_wp2
        exact ⟨rfl, Below.refl _ _, rfl⟩
      case o1e =>
        intro w' hb v1 hv1
        have hv0' : w'.cell? ⟨vb, 3, none⟩ = some v := (HJ.out.kept (show X.grownBy w' (some rb) from hb)).rv.cell 3
        obtain rfl : v1 = _ := hv1
        show wpList _ _ _ _ _ _
        simp only [Grow.dstOf, List.getElem?_toArray, List.getElem?_cons_zero, Option.bind_some, Act.put, List.setIfInBounds_toArray, List.set_cons_succ, List.set_cons_zero]
        go_wp2
        exact ⟨rfl, Below.refl _ _, rfl⟩
      case o2e =>
        intro w' hb
        show wpList _ _ _ _ _ _
        go_wp2
        exact ⟨rfl, Below.refl _ _, rfl⟩
      case o3e =>
        intro w' hb v2 hv2
        have hbw : Below X.heap.size X w' := hb
        obtain rfl : v2 = _ := hv2
        show wpList _ _ _ _ _ _
        simp only [Grow.dstOf, List.getElem?_toArray, List.getElem?_cons_succ, List.getElem?_cons_zero, Option.bind_some, Act.put, List.setIfInBounds_toArray, List.set_cons_succ, List.set_cons_zero]
        go_wp2_with fail
        refine (HVC.out w' hbw).mono ?_
        rintro e wz ⟨v9, c9, rfl, hon, hvu, hA⟩
        have hJ9 := HJ.out.below hbw
        have hPV : (TPv (fun q => vb + 1 ≤ q ∧ v.ownBlock ≠ some q) s rb i w y).p wz (.agg c9.toArray) := ⟨v9, c9, rfl, hon.mono (fun q _ hq => ⟨by have := hJ9.rv.lt; omega, fun e => by have := (hJ9.er.ge q e).2; omega⟩), hvu, hA.tr hJ9.gr⟩
        have hG9 : w'.grownBy wz (some rb) := hA.gr
        clear hon hvu hA hJ9
        go_wp2
        exact ⟨hPV, hG9, rfl⟩
      case o4e =>
        intro w' hb v3 hv3
        have hbg : X.grownBy w' (some rb) := hb
        obtain ⟨v9, c9, rfl, hon, hvu, hA⟩ := hv3
        obtain ⟨k6, n6, s6, a6, m6, r6, a7, m7, r7, rfl⟩ := V5 hon.now
        have hJ9 := HJ.out.kept hbg
        have hPS : (TPs (fun q => vb + 1 ≤ q ∧ v.ownBlock ≠ some q) (vb + 1) y).p (w'.alloc (.cells #[.int .i64 k6, .int .i64 n6, .string s6, .slice a6 m6 r6, .slice a7 m7 r7] 25)) (.slice (some ⟨w'.heap.size, 0, none⟩) 1 1) := ⟨v9, _, w'.heap.size, rfl, by have := hJ9.rv.lt; omega, RH.new _ _ _, hon.below (ext_alloc _ _), hvu⟩
        have hB9 := ext_alloc w' (.cells #[.int .i64 k6, .int .i64 n6, .string s6, .slice a6 m6 r6, .slice a7 m7 r7] 25)
        clear hon hvu hA hJ9
        show wpList _ _ _ _ _ _
        simp only [Grow.dstOf, List.getElem?_toArray, List.getElem?_cons_succ, List.getElem?_cons_zero, Option.bind_some, Act.put, List.setIfInBounds_toArray, List.set_cons_succ, List.set_cons_zero]
        go_wp2
        exact ⟨hPS, hB9, rfl⟩
      case tle =>
        intro w3 hbz u0 hu0 u1 hu1 u2 hu2 u3 hu3 u4 hu4
        have hJ3 := HJ.out.kept hbz
        obtain rfl : u0 = _ := hu0
        have hu1 : v = u1 := Eq.symm hu1
        subst hu1
        obtain rfl : u2 = _ := hu2
        obtain ⟨v8, c8, rfl, _, _, hA⟩ := hu3
        obtain ⟨v9, c9, B9, rfl, hB9, hRB9, hon, hvu⟩ := hu4
        have HAA := Lib.hid hA
        have HVU := Lib.hid hvu
        have HJ3 := Lib.hid hJ3
        have HON := Lib.hid hon
        have HRB9 := Lib.hid hRB9
        clear hA hvu hJ3 hon hRB9 hbz c0 c1 c2 c3 hv0 HVC
        show wpList _ _ _ _ _ _
        simp only [Act.put, List.setIfInBounds_toArray, List.set_cons_succ, List.set_cons_zero]
        refine wpList_append_it rfl _ _ rfl rfl rfl HJ3.out.er HON.out HRB9.out (by have := HJ3.out.rv.lt; omega) (by have := HAL.out; have := HBS.out; omega) ?_
        intro a5 LN q5 X4 hE5 hg5
        have hs3 : X4.cell? ⟨vb, 3, none⟩ = some v := (Rw.rh_grown HJ3.out.rv hg5 (HJ3.out.er.ne (by omega))).cell 3
        have hz3 : X4.frozen? ⟨vb, 3, none⟩ = false := (Rw.rh_grown HJ3.out.rv hg5 (HJ3.out.er.ne (by omega))).fre 3
        obtain ⟨hJ5, hRD5⟩ := lj_step (j := 3) HJ3.out (fun _ _ => rfl) hE5 hg5
        have HJ5 := Lib.hid hJ5
        have HRD5 := Lib.hid hRD5
        clear hE5 hg5 hJ5 hRD5
        go_wp2_with fail
        (try clear hs3)
        (try clear hz3)
        generalize X4.setCell ⟨vb, 3, none⟩ (.slice a5 LN q5) = Z at *
        have HLA : Hid ((acc ++ [v9]).length ≤ b + 1) := Lib.hid (by rw [List.length_append, List.length_singleton]; have := HAL.out; omega)
        cases y with
        | bad q er =>
          obtain ⟨a3, ha3, hne, hRa, _⟩ := HAA.out
          have HXB : Hid (x = .bad q er) := Lib.hid (by rw [HXE.out, ← HY.out, elsP_bad1 HV.out]; rfl)
          have hR5 := HRD5.out s _ _ _ hRa
          refine (blanks_at rb s a3 er _ Z hR5 hs ha3).mono ?_
          rintro e Z2 ⟨rfl, a4, ha4, -, hR, hg⟩
          have HJ6 := Lib.hid (HJ5.out.kept hg)
          have HR6 := Lib.hid hR
          have HNE := Lib.hid hne
          have hneb : (er == 0) = false := by simpa using hne
          clear hR5 hR hg hRa hne HRD5
          obtain ⟨c0, c1, c2, c3⟩ := HR6.out.c
          go_wp2_with fail
          refine (sign_err rb s a4 er _ 93 Z2 HR6.out HNE.out).mono ?_
          rintro e Z3 ⟨rfl, hR, hg⟩
          have HJZ := Lib.hid (HJ6.out.kept hg)
          have HAX : Hid (AftS s rb i w Z3 x) := Lib.hid (by rw [HXB.out]; exact ⟨a4, ha4, HNE.out, hR, HJZ.out.gr⟩)
          have HVX : Hid (∀ u r, x = .ok u r → lsV (acc ++ [v9]) = u) := Lib.hid (fun u r e => by rw [HXB.out] at e; cases e)
          clear hR hg c0 c1 c2 c3
          obtain ⟨d0, d1, d2, d3, d4⟩ := va5 HJZ.out.rv
          have HF : Hid (ValPost s rb i w x (.returned (.agg (vAr 4 0 eB (.slice a5 LN q5) (.slice none 0 0)))) (Z3.setRow w.heap.size (vAr 4 0 eB (.slice a5 LN q5) (.slice none 0 0)))) := Lib.hid ⟨lsV (acc ++ [v9]), _, rfl, ((lj_list HJZ.out).keep (by rw [setRow_size]; exact Nat.le_refl _) (fun q _ hq => setRow_other _ _ _ _ (by omega))).mono (fun q _ hq => Nat.le_of_lt hq), HVX.out, HAX.out.row (Nat.le_refl _) (by have := HRB.out; omega) _⟩
          go_wp2_with (refine wpList_store_row rfl _ _ _ rfl w.heap.size (vAr 4 0 eB (.slice a5 LN q5) (.slice none 0 0)) rfl rfl _ _ HJZ.out.rr (v_inf5 _ _ _ _ _) rfl (v_all5 _ _ _ _ _ _ _ _ _) ?_)
          (try simp only [Exit.inBlock, Exit.then])
          refine bodyPost_ret (v := .agg (vAr 4 0 eB (.slice a5 LN q5) (.slice none 0 0))) (results_cell_row rfl _ _ _ _ _ _ _ rfl (HJZ.out.rr.row _) Tryz.underlying25 rfl (v_inf5 _ _ _ _ _)) rfl HF.out
        | ok t r =>
          obtain ⟨a3, ha3, hda3, hRa, _⟩ := HAA.out
          have hvt : v9 = t := HVU.out t r rfl
          subst hvt
          have hR5 := HRD5.out s _ _ _ hRa
          have HQ3 : Hid (s.size - a3 ≤ s.size - b) := Lib.hid (by
            have := valP_len g (dr s b) HV.out
            rw [← hda3, dr_len ha3, dr_len HBS.out] at this
            exact this)
          have HA3 := Lib.hid ha3
          refine (blanks_at rb s a3 0 _ Z hR5 hs ha3).mono ?_
          rintro e Z2 ⟨rfl, a4, ha4, hda4, hR, hg⟩
          have HJ6 := Lib.hid (HJ5.out.kept hg)
          have HR6 := Lib.hid hR
          rw [hda3] at hda4
          have HD4 := Lib.hid hda4
          have HA4 := Lib.hid ha4
          have HQ4 : Hid (s.size - a4 ≤ s.size - b) := Lib.hid (by
            have h1 := skipW_len r
            rw [← hda4, ← hda3, dr_len ha4, dr_len HA3.out] at h1
            have := HQ3.out
            omega)
          have HMO := Lib.hid (moreP_at (c := 93) hda4)
          have ha4i : (a4 : Int) ≤ 1000000 := by omega
          clear hR5 hR hg hRa HRD5 hda3 hda4 ha3 ha4
          obtain ⟨c0, c1, c2, c3⟩ := HR6.out.c
          go_wp2_with fail
          clear c0 c1 c2 c3
          refine (peek_q rb s a4 0 i Z2 HR6.out hs).mono ?_
          rintro e Z3 ⟨rfl, hR, hg, -⟩
          have HJ7 := Lib.hid (HJ6.out.kept hg)
          have HR7 := Lib.hid hR
          clear hR hg HJ6 HR6
          by_cases hp4 : pk s a4 = 44
          · have hpb : (pk s a4 == 44) = true := by simpa using hp4
            have HLT : Hid (a4 < s.size) := Lib.hid (Classical.byContradiction fun hn => by rw [pk_ge (by omega)] at hp4; omega)
            have HEL : Hid (elsP g (acc ++ [v9]) (skipW (dr s (a4 + 1))) = y0) := Lib.hid (by
              have h1 := HMO.out
              rw [if_pos HLT.out, if_pos hp4] at h1
              rw [← HY.out, elsP_ok HV.out h1, if_pos rfl])
            clear hp4
            obtain ⟨c0, c1, c2, c3⟩ := HR7.out.c
            have z1 := HR7.out.z 1
            have hg := gr_set Z3 rb 1 (.int .i64 ((a4 : Int) + 1))
            have HR8 : Hid (RD (Z3.setCell ⟨rb, 1, none⟩ (.int .i64 ((a4 : Int) + 1))) rb s (a4 + 1) 0 i) := Lib.hid (HR7.out.next (a4 + 1))
            have HJ8 := Lib.hid (HJ7.out.kept hg)
            clear hg
            go_wp2_with fail
            clear c0 c1 c2 c3 z1 HR7 HJ7
            generalize Z3.setCell ⟨rb, 1, none⟩ (.int .i64 ((a4 : Int) + 1)) = Z4 at *
            refine (blanks_at rb s (a4 + 1) 0 i Z4 HR8.out hs HLT.out).mono ?_
            rintro e Z5 ⟨rfl, a6, ha6, hda6, hR, hg⟩
            have HJ9 := Lib.hid (HJ8.out.kept hg)
            have HR9 := Lib.hid hR
            have HQ6 : Hid (b < a6) := Lib.hid (by
              have h1 := skipW_len (dr s (a4 + 1))
              rw [← hda6, dr_len ha6, dr_len (show a4 + 1 ≤ s.size from HLT.out)] at h1
              have := HQ4.out
              have := HLT.out
              have := HBS.out
              omega)
            rw [← hda6] at HEL
            have HM6 := Lib.hid (meas hR)
            have HMX := Lib.hid (meas HR.out)
            clear hR hg hda6 HR8 HJ8
            go_wp2_with fail
            go_roundw
            case rel => exact ⟨acc ++ [v9], a6, g, .slice a5 LN q5, E ++ [c9], ha6, Lib.hid (by have := HLA.out; have := HQ6.out; omega), Lib.hid (by have := HGB.out; have := HQ6.out; omega), Lib.hid (by have := HGF.out; omega), HEL, HJ9, HR9⟩
            case measure => rw [HM6.out, HMX.out]; have := HQ6.out; omega
          · have hpb : (pk s a4 == 44) = false := by simpa using hp4
            by_cases hp9 : ∃ h : a4 < s.size, (s[a4].toNat : Int) = 93
            · obtain ⟨hlt, hc9⟩ := hp9
              have HLT := Lib.hid hlt
              have HC9 := Lib.hid hc9
              have HXO : Hid (x = .ok (lsV (acc ++ [v9])) (dr s (a4 + 1))) := Lib.hid (by
                have h1 := HMO.out
                rw [if_pos hlt, if_neg hp4, if_pos (by rw [pk_lt hlt, hc9]; rfl)] at h1
                rw [HXE.out, ← HY.out, elsP_ok HV.out h1, if_neg (by decide)]; rfl)
              clear hp4 hc9
              go_wp2_with fail
              refine (sign_ok rb s a4 i 93 Z3 HR7.out hs HLT.out HC9.out).mono ?_
              rintro e Z4 ⟨rfl, hR, hg⟩
              have HJZ := Lib.hid (HJ7.out.kept hg)
              have HAX : Hid (AftS s rb i w Z4 x) := Lib.hid (by rw [HXO.out]; exact ⟨a4 + 1, HLT.out, rfl, hR, HJZ.out.gr⟩)
              have HVX : Hid (∀ u r, x = .ok u r → lsV (acc ++ [v9]) = u) := Lib.hid (fun u r e => by rw [HXO.out] at e; cases e; rfl)
              clear hR hg
              obtain ⟨d0, d1, d2, d3, d4⟩ := va5 HJZ.out.rv
              have HF : Hid (ValPost s rb i w x (.returned (.agg (vAr 4 0 eB (.slice a5 LN q5) (.slice none 0 0)))) (Z4.setRow w.heap.size (vAr 4 0 eB (.slice a5 LN q5) (.slice none 0 0)))) := Lib.hid ⟨lsV (acc ++ [v9]), _, rfl, ((lj_list HJZ.out).keep (by rw [setRow_size]; exact Nat.le_refl _) (fun q _ hq => setRow_other _ _ _ _ (by omega))).mono (fun q _ hq => Nat.le_of_lt hq), HVX.out, HAX.out.row (Nat.le_refl _) (by have := HRB.out; omega) _⟩
              go_wp2_with (refine wpList_store_row rfl _ _ _ rfl w.heap.size (vAr 4 0 eB (.slice a5 LN q5) (.slice none 0 0)) rfl rfl _ _ HJZ.out.rr (v_inf5 _ _ _ _ _) rfl (v_all5 _ _ _ _ _ _ _ _ _) ?_)
              (try simp only [Exit.inBlock, Exit.then])
              refine bodyPost_ret (v := .agg (vAr 4 0 eB (.slice a5 LN q5) (.slice none 0 0))) (results_cell_row rfl _ _ _ _ _ _ _ rfl (HJZ.out.rr.row _) Tryz.underlying25 rfl (v_inf5 _ _ _ _ _)) rfl HF.out
            · have hc9 : ∀ h : a4 < s.size, (s[a4].toNat : Int) ≠ 93 := fun h e => hp9 ⟨h, e⟩
              have HC9 := Lib.hid hc9
              have HXB : Hid (x = .bad (dr s a4) 10) := Lib.hid (by
                have h1 := HMO.out
                by_cases hlt : a4 < s.size
                · rw [if_pos hlt, if_neg hp4, if_neg (by rw [pk_lt hlt]; exact hc9 hlt)] at h1
                  rw [HXE.out, ← HY.out, elsP_bad2 HV.out h1]; rfl
                · rw [if_neg hlt] at h1
                  rw [HXE.out, ← HY.out, elsP_bad2 HV.out h1]; rfl)
              clear hp4 hc9 hp9
              go_wp2_with fail
              refine (sign_no rb s a4 i 93 Z3 HR7.out hs HA4.out HC9.out).mono ?_
              rintro e Z4 ⟨rfl, hR, hg⟩
              have HJZ := Lib.hid (HJ7.out.kept hg)
              have HAX : Hid (AftS s rb i w Z4 x) := Lib.hid (by rw [HXB.out]; exact BadS.at hR HA4.out HJZ.out.gr)
              have HVX : Hid (∀ u r, x = .ok u r → lsV (acc ++ [v9]) = u) := Lib.hid (fun u r e => by rw [HXB.out] at e; cases e)
              clear hR hg
              obtain ⟨d0, d1, d2, d3, d4⟩ := va5 HJZ.out.rv
              have HF : Hid (ValPost s rb i w x (.returned (.agg (vAr 4 0 eB (.slice a5 LN q5) (.slice none 0 0)))) (Z4.setRow w.heap.size (vAr 4 0 eB (.slice a5 LN q5) (.slice none 0 0)))) := Lib.hid ⟨lsV (acc ++ [v9]), _, rfl, ((lj_list HJZ.out).keep (by rw [setRow_size]; exact Nat.le_refl _) (fun q _ hq => setRow_other _ _ _ _ (by omega))).mono (fun q _ hq => Nat.le_of_lt hq), HVX.out, HAX.out.row (Nat.le_refl _) (by have := HRB.out; omega) _⟩
              go_wp2_with (refine wpList_store_row rfl _ _ _ rfl w.heap.size (vAr 4 0 eB (.slice a5 LN q5) (.slice none 0 0)) rfl rfl _ _ HJZ.out.rr (v_inf5 _ _ _ _ _) rfl (v_all5 _ _ _ _ _ _ _ _ _) ?_)
              (try simp only [Exit.inBlock, Exit.then])
              refine bodyPost_ret (v := .agg (vAr 4 0 eB (.slice a5 LN q5) (.slice none 0 0))) (results_cell_row rfl _ _ _ _ _ _ _ rfl (HJZ.out.rr.row _) Tryz.underlying25 rfl (v_inf5 _ _ _ _ _)) rfl HF.out
end Fd
end Go.Proofs.YtbhcfmdogdaodaaGreatDoor
