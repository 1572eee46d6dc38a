/- Xshow and Show of package value. Printed by gen_vsh.py. value.Compare and the reference's Compare, walked. -/
import Derived.Test.YtbhcfmdogdaodaaDoorTe25
import Derived.Test.YtbhcfmdogdaodaaDoorTe11
import Derived.Test.YtbhcfmdogdaodaaDoorTe01
import Derived.Deep.RegionHeld3
namespace Go.Proofs.YtbhcfmdogdaodaaDoor
open Go.RowKit
namespace Fd
open _root_.Go.Proofs.YtbhcfmdogdaodaaDoor.Nt (RH RH.cell RH.box RH.lt RH.new RH.ext RH.fre RH.set RH.other)
open _root_.Go.Proofs.YtbhcfmdogdaodaaDoor.Rw (All2 All2.get All2.length wpList_load_agg wp_stored)
theorem wp_bldV {P : Program} {c : Code} {Q : Exit → Act → World → Prop} {a : Act} {w : World} {T e : TypeId} (h : ∀ W, Below w.heap.size w W → Lib.IsBuilder T e w.heap.size w.heap.size [] W → c.wp P Q a W) : c.wp P Q a (w.alloc (.cells #[.pointer none, .slice none 0 0] T)) := h _ (ext_alloc _ _) (Lib.fresh_isBuilder T e w)
theorem chk_few' {x : V} (h : pN x ≤ 1048576) (hc : chkF x = 0) : pN x ≤ 1000 := by
  unfold chkF at hc
  split at hc
  · cases hc
  · next hn =>
    have h1 : ¬ (1000 : Int) < IntKind.i64.wrap (pN x : Int) := fun e => hn (.inl e)
    rw [IntKind.wrap_i64] at h1
    omega
set_option maxRecDepth 100000 in
set_option maxHeartbeats 16000000 in
theorem xshow_at (x : V) (cs : List Value) (w : World) (hx : RepV w x cs) (hT : Tx.Tb w) (hck : chkV x = 0) (hlen : (wrV x).length ≤ 1000000000) : Calls Tryd.prog 19 #[.agg cs.toArray] w fun e w' => e = .returned (.string (Tx.stB (wrV x))) ∧ Below w.heap.size w w' := by
  obtain ⟨k1, n1, s1, b1, b2, b3, b4, b5, b6, rfl⟩ := V5 hx
  have HX := Lib.hid hx
  have HT := Lib.hid hT
  have HCK := Lib.hid hck
  have HLN := Lib.hid hlen
  clear hx hT hck hlen
  go_enter Tryd.func19, Tryd.ntmps19
  go_upto_region 1 with (fail)
  refine Tx.wp_vr1 fun W hbW hR1 => ?_
  have HR1 := Lib.hid hR1
  have HBW := Lib.hid hbW
  clear hR1 hbW
  go_upto_region 2 with (fail)
  refine wp_bldV (e := 5) fun Y hbY hI => ?_
  have HI := Lib.hid hI
  have HBY := Lib.hid (ext_trans HBW.out hbY)
  have HSY := Lib.hid (HBW.out.size)
  have HSZ := Lib.hid hbY.size
  have HBWY := Lib.hid hbY
  obtain ⟨a0, a1, a2, a3, a4⟩ := va5 (HR1.out.ext hbY)
  generalize W.heap.size = B at *
  clear hI hbY
  go_wp2_with fail
  refine (shV x B B [] _ Y ((RepV.on HX.out).mono (D' := fun q => q < B) (fun q h1 _ => by have := HSY.out; omega) |>.below HBY.out) HI.out (by have := HLN.out; simpa using this) HSZ.out (fun Z hZ => HT.out.ext (HBY.out.trans (hZ.mono HSY.out))) HCK.out).mono ?_
  rintro e w3 ⟨rfl, h3, hb3, hk3, hs3⟩
  rw [List.nil_append] at h3
  have HI3 := Lib.hid h3
  have HB3 := Lib.hid (HBY.out.trans (hb3.mono HSY.out))
  have HS3 := Lib.hid (Nat.le_trans HSZ.out hs3)
  clear h3 hb3 hk3 hs3 a0 a1 a2 a3 a4
  go_wp2_with fail
  refine (Tryd.Builder_String_any B B (wrV x) w3 HI3.out HS3.out).mono ?_
  rintro e w4 ⟨rfl, hb4⟩
  have HB4 := Lib.hid (HB3.out.trans (hb4.mono HSY.out))
  clear hb4
  go_wp2
  go_ret
  exact ⟨rfl, HB4.out⟩
set_option maxRecDepth 100000 in
set_option maxHeartbeats 16000000 in
theorem show_at (x : V) (cs : List Value) (w : World) (hx : RepV w x cs) (hT : Tx.Tb w) (hp : pN x ≤ 1048576) : Calls Tryd.prog 8 #[.agg cs.toArray] w fun e w' => e = .returned (.tuple #[.string (Tx.stB (shwF x).1), .int .i64 (shwF x).2]) ∧ Below w.heap.size w w' := by
  obtain ⟨k1, n1, s1, b1, b2, b3, b4, b5, b6, rfl⟩ := V5 hx
  have HX := Lib.hid hx
  have HT := Lib.hid hT
  have HP := Lib.hid hp
  obtain ⟨z, hz⟩ : ∃ z, chkF x = z := ⟨_, rfl⟩
  have HZ := Lib.hid hz
  have HC : Hid (shwF x = if z ≠ 0 then ([], z) else if 20000 < (wrV x).length then ([], 2) else (wrV x, 0)) := Lib.hid (by rw [← hz]; rfl)
  clear hx hT hz hp
  go_enter Tryd.func8, Tryd.ntmps8
  go_upto_region 1 with (fail)
  refine Tx.wp_vr1 fun W hbW hR1 => ?_
  obtain ⟨a0, a1, a2, a3, a4⟩ := va5 hR1
  have HR1 := Lib.hid hR1
  have HBW := Lib.hid hbW
  clear hR1 hbW
  go_wp2_with fail
  refine (check_at x _ W (RepV.ext HBW.out HX.out)).mono ?_
  rintro e w1 ⟨rfl, hb1⟩
  rw [HZ.out]
  have HB1 := Lib.hid (ext_trans HBW.out hb1)
  have HQ1 := Lib.hid (HR1.out.ext hb1)
  clear a0 a1 a2 a3 a4 hb1 HR1
  by_cases h : z = 0
  · have HN := Lib.hid (HC.out.trans (if_neg (by rw [h]; simp)))
    have HCK : Hid (chkV x = 0) := Lib.hid (chkF_chkV (HZ.out.trans h))
    have HLN : Hid ((wrV x).length ≤ 2000000) := Lib.hid (by
      have h1 := wr_len HCK.out
      have h2 := chk_few' HP.out (HZ.out.trans h)
      omega)
    subst h
    clear HC
    obtain ⟨a0, a1, a2, a3, a4⟩ := va5 HQ1.out
    go_wp2_with fail
    refine (xshow_at x _ w1 (RepV.ext HB1.out HX.out) (HT.out.ext HB1.out) HCK.out (by have := HLN.out; omega)).mono ?_
    rintro e w2 ⟨rfl, hb2⟩
    have HB2 := Lib.hid (ext_trans HB1.out hb2)
    obtain ⟨t, ht⟩ : ∃ t, wrV x = t := ⟨_, rfl⟩
    rw [ht] at HN HLN ⊢
    have hsz : (Tx.stB t).size = t.length := Tx.stB_size t
    clear a0 a1 a2 a3 a4 hb2 ht
    obtain ⟨u, hu⟩ : ∃ u, Tx.stB t = u := ⟨_, rfl⟩
    rw [hu] at hsz ⊢
    have HU := Lib.hid hu
    have HSU := Lib.hid hsz
    clear hsz hu
    by_cases hg : 20000 < t.length
    · have HN2 := Lib.hid (HN.out.trans (if_pos hg))
      have hgi : (20000 : Int) < (u.size : Int) := by have := HSU.out; omega
      clear HN hg
      go_wp2
      go_ret2
      exact ⟨by rw [HN2.out]; rfl, HB2.out⟩
    · have HN2 := Lib.hid (HN.out.trans (if_neg hg))
      have hgi : ¬ (20000 : Int) < (u.size : Int) := by have := HSU.out; omega
      clear HN hg
      go_wp2
      go_ret2
      exact ⟨by rw [HN2.out, ← HU.out]; rfl, HB2.out⟩
  · have HN := Lib.hid (HC.out.trans (if_pos h))
    have hzb : (z != 0) = true := by simpa using h
    clear HC
    go_wp2
    go_ret2
    exact ⟨by rw [HN.out]; rfl, HB1.out⟩
end Fd
end Go.Proofs.YtbhcfmdogdaodaaDoor
namespace Go.Proofs.YtbhcfmdogdaodaaDoor
open Go.RowKit

/-- What a comparison's call leaves. -/
def IntPost (n : Int) (w : World) (e : Ending) (w' : World) : Prop := e = .returned (.int .i64 n) ∧ Below w.heap.size w w'

/-- The contract of a comparison of values at one left side. -/
def CmpAt (f : Nat) (x : V) : Prop := ∀ (y : V) (cs cs' : List Value) (w : World), RepV w x cs → RepV w y cs' → Calls Tryd.prog f #[.agg cs.toArray, .agg cs'.toArray] w (IntPost (cmpV x y) w)

theorem cells5 {w : World} {x : V} {c : List Value} (h : RepV w x c) : ∃ (k n : Int) (s : ByteArray) (a : Option Addr) (m q : Nat) (a' : Option Addr) (m' q' : Nat), c = [.int .i64 k, .int .i64 n, .string s, .slice a m q, .slice a' m' q'] := by
  cases x; simp only [RepV] at h; obtain ⟨_, _, _, _, rfl, _, _, _, ⟨_, _, rfl, _⟩, _, ⟨_, _, rfl, _⟩, _⟩ := h; exact ⟨_, _, _, _, _, _, _, _, _, rfl⟩

/-- An element of five cells, out of a slice of values. -/
theorem item_cells {w : World} {a : Option Addr} {n c k : Nat} {l : List V} {cs : List Value} {x : V} (s : Sl w (.slice a n c) n cs) (r : RepL w l cs) (hx : l[k]? = some x) :
    ∃ (b o : Nat) (kx nx : Int) (sx : ByteArray) (a1 : Option Addr) (m1 q1 : Nat) (a2 : Option Addr) (m2 q2 : Nat), a = some ⟨b, o, none⟩ ∧ RepV w x [.int .i64 kx, .int .i64 nx, .string sx, .slice a1 m1 q1, .slice a2 m2 q2] ∧
      w.cell? ⟨b, o + k * 5, none⟩ = some (.int .i64 kx) ∧ w.cell? ⟨b, o + k * 5 + 1, none⟩ = some (.int .i64 nx) ∧ w.cell? ⟨b, o + k * 5 + 2, none⟩ = some (.string sx) ∧ w.cell? ⟨b, o + k * 5 + 3, none⟩ = some (.slice a1 m1 q1) ∧ w.cell? ⟨b, o + k * 5 + 4, none⟩ = some (.slice a2 m2 q2) := by
  obtain ⟨c', h1, h2⟩ := r.get hx
  obtain ⟨kx, nx, sx, a1, m1, q1, a2, m2, q2, rfl⟩ := cells5 h1
  obtain ⟨a', cap, hv, _, _, _, h3⟩ := s
  obtain ⟨rfl, _, _⟩ : a = a' ∧ True ∧ True := by cases hv; exact ⟨rfl, trivial, trivial⟩
  obtain ⟨b, o, rfl, e0⟩ := h3 _ _ (h2 0 _ rfl)
  obtain ⟨b1, o1, hb1, e1⟩ := h3 _ _ (h2 1 _ rfl)
  obtain ⟨b2, o2, hb2, e2⟩ := h3 _ _ (h2 2 _ rfl)
  obtain ⟨b3, o3, hb3, e3⟩ := h3 _ _ (h2 3 _ rfl)
  obtain ⟨b4, o4, hb4, e4⟩ := h3 _ _ (h2 4 _ rfl)
  cases hb1; cases hb2; cases hb3; cases hb4
  exact ⟨b, o, kx, nx, sx, a1, m1, q1, a2, m2, q2, rfl, h1, e0, e1, e2, e3, e4⟩
theorem drop_nil {α : Type} (l : List α) (k : Nat) (h : l.length ≤ k) : l.drop k = [] := List.drop_eq_nil_of_le h
theorem drop_cons {α : Type} {l : List α} {k : Nat} {x : α} (h : l[k]? = some x) : l.drop k = x :: l.drop (k + 1) := by
  obtain ⟨hk, rfl⟩ := List.getElem?_eq_some_iff.1 h
  exact List.drop_eq_getElem_cons hk

theorem cells6 {w : World} {x : F} {c : List Value} (h : RepF w x c) : ∃ (nm : ByteArray) (k n : Int) (s : ByteArray) (a : Option Addr) (m q : Nat) (a' : Option Addr) (m' q' : Nat), c = [.string nm, .int .i64 k, .int .i64 n, .string s, .slice a m q, .slice a' m' q'] := by
  cases x; simp only [RepF] at h; obtain ⟨c, rfl, _, h⟩ := h
  obtain ⟨_, _, _, _, _, _, _, _, _, rfl⟩ := cells5 h
  exact ⟨_, _, _, _, _, _, _, _, _, _, rfl⟩
/-- An element of six cells, out of a slice of fields. -/
theorem field_cells {w : World} {a : Option Addr} {n c k : Nat} {l : List F} {cs : List Value} {x : F} (s : Sl w (.slice a n c) n cs) (r : RepFs w l cs) (hx : l[k]? = some x) :
    ∃ (b o : Nat) (fx : ByteArray) (kx nx : Int) (sx : ByteArray) (a1 : Option Addr) (m1 q1 : Nat) (a2 : Option Addr) (m2 q2 : Nat), a = some ⟨b, o, none⟩ ∧ RepF w x [.string fx, .int .i64 kx, .int .i64 nx, .string sx, .slice a1 m1 q1, .slice a2 m2 q2] ∧
      w.cell? ⟨b, o + k * 6, none⟩ = some (.string fx) ∧ w.cell? ⟨b, o + k * 6 + 1, none⟩ = some (.int .i64 kx) ∧ w.cell? ⟨b, o + k * 6 + 2, none⟩ = some (.int .i64 nx) ∧ w.cell? ⟨b, o + k * 6 + 3, none⟩ = some (.string sx) ∧ w.cell? ⟨b, o + k * 6 + 4, none⟩ = some (.slice a1 m1 q1) ∧ w.cell? ⟨b, o + k * 6 + 5, none⟩ = some (.slice a2 m2 q2) := by
  obtain ⟨c', h1, h2⟩ := r.get hx
  obtain ⟨fx, kx, nx, sx, a1, m1, q1, a2, m2, q2, rfl⟩ := cells6 h1
  obtain ⟨a', cap, hv, _, _, _, h3⟩ := s
  obtain ⟨rfl, _, _⟩ : a = a' ∧ True ∧ True := by cases hv; exact ⟨rfl, trivial, trivial⟩
  obtain ⟨b, o, rfl, e0⟩ := h3 _ _ (h2 0 _ rfl)
  obtain ⟨b1, o1, hb1, e1⟩ := h3 _ _ (h2 1 _ rfl)
  obtain ⟨b2, o2, hb2, e2⟩ := h3 _ _ (h2 2 _ rfl)
  obtain ⟨b3, o3, hb3, e3⟩ := h3 _ _ (h2 3 _ rfl)
  obtain ⟨b4, o4, hb4, e4⟩ := h3 _ _ (h2 4 _ rfl)
  obtain ⟨b5, o5, hb5, e5⟩ := h3 _ _ (h2 5 _ rfl)
  cases hb1; cases hb2; cases hb3; cases hb4; cases hb5
  exact ⟨b, o, fx, kx, nx, sx, a1, m1, q1, a2, m2, q2, rfl, h1, e0, e1, e2, e3, e4, e5⟩
end Go.Proofs.YtbhcfmdogdaodaaDoor
