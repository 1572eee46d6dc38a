/- value.Compare and the reference's Compare, walked. value.compareFields and value.Compare. -/
import Derived.Test.YtkjgifhklajifaaPm00
import Derived.Deep.RegionHeld3
import Derived.Test.YtkjgifhklajifaaPm01
namespace Go.Proofs.Ytkjgifhklajifaa
open Go.RowKit

/-- What a comparison's call leaves. -/
def IntPost (n : Int) (w : World) (e : Ending) (w' : World) : Prop := e = .returned (.int .i64 n) ∧ Below w.heap.size w w'

/-- The contract of a comparison of values at one left side. -/
def CmpAt (f : Nat) (x : V) : Prop := ∀ (y : V) (cs cs' : List Value) (w : World), RepV w x cs → RepV w y cs' → Calls Try.prog f #[.agg cs.toArray, .agg cs'.toArray] w (IntPost (cmpV x y) w)

theorem cells5 {w : World} {x : V} {c : List Value} (h : RepV w x c) : ∃ (k n : Int) (s : ByteArray) (a : Option Addr) (m q : Nat) (a' : Option Addr) (m' q' : Nat), c = [.int .i64 k, .int .i64 n, .string s, .slice a m q, .slice a' m' q'] := by
  cases x; simp only [RepV] at h; obtain ⟨_, _, _, _, rfl, _, _, _, ⟨_, _, rfl, _⟩, _, ⟨_, _, rfl, _⟩, _⟩ := h; exact ⟨_, _, _, _, _, _, _, _, _, rfl⟩

/-- An element of five cells, out of a slice of values. -/
theorem item_cells {w : World} {a : Option Addr} {n c k : Nat} {l : List V} {cs : List Value} {x : V} (s : Sl w (.slice a n c) n cs) (r : RepL w l cs) (hx : l[k]? = some x) :
    ∃ (b o : Nat) (kx nx : Int) (sx : ByteArray) (a1 : Option Addr) (m1 q1 : Nat) (a2 : Option Addr) (m2 q2 : Nat), a = some ⟨b, o, none⟩ ∧ RepV w x [.int .i64 kx, .int .i64 nx, .string sx, .slice a1 m1 q1, .slice a2 m2 q2] ∧
      w.cell? ⟨b, o + k * 5, none⟩ = some (.int .i64 kx) ∧ w.cell? ⟨b, o + k * 5 + 1, none⟩ = some (.int .i64 nx) ∧ w.cell? ⟨b, o + k * 5 + 2, none⟩ = some (.string sx) ∧ w.cell? ⟨b, o + k * 5 + 3, none⟩ = some (.slice a1 m1 q1) ∧ w.cell? ⟨b, o + k * 5 + 4, none⟩ = some (.slice a2 m2 q2) := by
  obtain ⟨c', h1, h2⟩ := r.get hx
  obtain ⟨kx, nx, sx, a1, m1, q1, a2, m2, q2, rfl⟩ := cells5 h1
  obtain ⟨a', cap, hv, _, _, _, h3⟩ := s
  obtain ⟨rfl, _, _⟩ : a = a' ∧ True ∧ True := by cases hv; exact ⟨rfl, trivial, trivial⟩
  obtain ⟨b, o, rfl, e0⟩ := h3 _ _ (h2 0 _ rfl)
  obtain ⟨b1, o1, hb1, e1⟩ := h3 _ _ (h2 1 _ rfl)
  obtain ⟨b2, o2, hb2, e2⟩ := h3 _ _ (h2 2 _ rfl)
  obtain ⟨b3, o3, hb3, e3⟩ := h3 _ _ (h2 3 _ rfl)
  obtain ⟨b4, o4, hb4, e4⟩ := h3 _ _ (h2 4 _ rfl)
  cases hb1; cases hb2; cases hb3; cases hb4
  exact ⟨b, o, kx, nx, sx, a1, m1, q1, a2, m2, q2, rfl, h1, e0, e1, e2, e3, e4⟩
theorem drop_nil {α : Type} (l : List α) (k : Nat) (h : l.length ≤ k) : l.drop k = [] := List.drop_eq_nil_of_le h
theorem drop_cons {α : Type} {l : List α} {k : Nat} {x : α} (h : l[k]? = some x) : l.drop k = x :: l.drop (k + 1) := by
  obtain ⟨hk, rfl⟩ := List.getElem?_eq_some_iff.1 h
  exact List.drop_eq_getElem_cons hk

set_option maxHeartbeats 1000000 in
theorem compareFunc_items (is is' : List V) (a a' : Option Addr) (c c' : Nat) (ics ics' : List Value) (w : World)
    (s1 : Sl w (.slice a is.length c) is.length ics) (s2 : Sl w (.slice a' is'.length c') is'.length ics') (r1 : RepL w is ics) (r2 : RepL w is' ics')
    (hf : ∀ x ∈ is, CmpAt 32 x) :
    Calls Try.prog 52 #[.slice a is.length c, .slice a' is'.length c', .func (.func 32) #[] #[]] w (IntPost (cmpL is is') w) := by
  go_enter Try.func52, Try.ntmps52
  go_wp2
  have HF := Lib.hid hf
  have hl1 : is.length ≤ 9223372036854775807 := by obtain ⟨_, _, hv, h1, h2, _⟩ := s1; cases hv; unfold maxLen at h2; omega
  have hl2 : is'.length ≤ 9223372036854775807 := by obtain ⟨_, _, hv, h1, h2, _⟩ := s2; cases hv; unfold maxLen at h2; omega
  clear hf
  go_loopw [13] (fun i wr => ∃ k : Nat, k ≤ is.length ∧ k ≤ is'.length ∧ i = .int .i64 k ∧ Hid (cmpL is is' = cmpL (is.drop k) (is'.drop k)) ∧ Below w.heap.size w wr) (fun i _ => is.length - (intOf i).toNat)
  case atStart => exact ⟨0, by omega, by omega, rfl, rfl, Below.refl _ _⟩
  case round =>
    obtain ⟨k, hk, hk', rfl, HC, hb⟩ := hrel
    by_cases hlt : k < is.length
    · obtain ⟨b, o, kx, nx, sx, a1, m1, q1, a2, m2, q2, rfl, rx, e0, e1, e2, e3, e4⟩ := item_cells (s1.ext hb) (r1.ext hb) (List.getElem?_eq_getElem hlt)
      by_cases hlt' : k < is'.length
      · obtain ⟨b', o', ky, ny, sy, a3, m3, q3, a4, m4, q4, rfl, ry, f0, f1, f2, f3, f4⟩ := item_cells (s2.ext hb) (r2.ext hb) (List.getElem?_eq_getElem hlt')
        have l0 := World.block_lt_of_cell? _ _ e0
        have l1 := World.block_lt_of_cell? _ _ f0
        go_wp2_with fail
        refine (HF.out is[k] (List.getElem_mem _) is'[k] _ _ _ (RepV.ext ?_ rx) (RepV.ext ?_ ry)).mono ?_
        · go_grown
        · go_grown
        rintro e w2 ⟨rfl, hb2⟩
        have hsz := hb.size
        have hbw : Below w.heap.size w w2 := hb.trans (Below.trans (by go_grown) (hb2.mono (by have := hb.size; simp; omega)))
        have hor : cmpL is is' = orI (cmpV is[k] is'[k]) (cmpL (is.drop (k + 1)) (is'.drop (k + 1))) := by
          rw [HC.out, drop_cons (List.getElem?_eq_getElem hlt), drop_cons (List.getElem?_eq_getElem hlt')]; simp only [cmpL]
        have HO := Lib.hid hor
        clear hor hb2
        generalize hz : cmpV is[k] is'[k] = z at *
        by_cases hz0 : z = 0
        · have hne : (z != 0) = false := by simp [hz0]
          have HZ := Lib.hid hz0
          clear hz hz0
          go_wp2
          go_roundw
          case rel => exact ⟨k + 1, by omega, by omega, by go_num, (by have := HO.out; rw [HZ.out] at this; exact this), hbw⟩
          case measure => simp [intOf]; omega
        · have hne : (z != 0) = true := by simp [hz0]
          clear hz
          have hfin : cmpL is is' = z := by rw [HO.out]; unfold orI; rw [if_neg hz0]
          have HN := Lib.hid hfin
          clear hfin hz0
          go_wp2
          go_ret
          exact ⟨ret_int HN.out.symm, hbw⟩
      · have hfin : cmpL is is' = 1 := by
          rw [HC.out, drop_cons (List.getElem?_eq_getElem hlt), drop_nil is' k (by omega)]; simp only [cmpL]
        have HN := Lib.hid hfin
        clear hfin
        go_wp2
        go_ret
        have hsz := hb.size
        exact ⟨ret_int HN.out.symm, hb.trans (by go_grown)⟩
    · by_cases hlt' : is.length < is'.length
      · have hfin : cmpL is is' = -1 := by
          rw [HC.out, drop_nil is k (by omega), drop_cons (List.getElem?_eq_getElem (show k < is'.length by omega))]; simp only [cmpL]
        have HN := Lib.hid hfin
        clear hfin
        go_wp2
        go_ret
        exact ⟨ret_int HN.out.symm, hb⟩
      · have hfin : cmpL is is' = 0 := by
          rw [HC.out, drop_nil is k (by omega), drop_nil is' k (by omega)]; simp only [cmpL]
        have HN := Lib.hid hfin
        clear hfin
        go_wp2
        go_ret
        exact ⟨ret_int HN.out.symm, hb⟩
theorem cells6 {w : World} {x : F} {c : List Value} (h : RepF w x c) : ∃ (nm : ByteArray) (k n : Int) (s : ByteArray) (a : Option Addr) (m q : Nat) (a' : Option Addr) (m' q' : Nat), c = [.string nm, .int .i64 k, .int .i64 n, .string s, .slice a m q, .slice a' m' q'] := by
  cases x; simp only [RepF] at h; obtain ⟨c, rfl, _, h⟩ := h
  obtain ⟨_, _, _, _, _, _, _, _, _, rfl⟩ := cells5 h
  exact ⟨_, _, _, _, _, _, _, _, _, _, rfl⟩
/-- An element of six cells, out of a slice of fields. -/
theorem field_cells {w : World} {a : Option Addr} {n c k : Nat} {l : List F} {cs : List Value} {x : F} (s : Sl w (.slice a n c) n cs) (r : RepFs w l cs) (hx : l[k]? = some x) :
    ∃ (b o : Nat) (fx : ByteArray) (kx nx : Int) (sx : ByteArray) (a1 : Option Addr) (m1 q1 : Nat) (a2 : Option Addr) (m2 q2 : Nat), a = some ⟨b, o, none⟩ ∧ RepF w x [.string fx, .int .i64 kx, .int .i64 nx, .string sx, .slice a1 m1 q1, .slice a2 m2 q2] ∧
      w.cell? ⟨b, o + k * 6, none⟩ = some (.string fx) ∧ w.cell? ⟨b, o + k * 6 + 1, none⟩ = some (.int .i64 kx) ∧ w.cell? ⟨b, o + k * 6 + 2, none⟩ = some (.int .i64 nx) ∧ w.cell? ⟨b, o + k * 6 + 3, none⟩ = some (.string sx) ∧ w.cell? ⟨b, o + k * 6 + 4, none⟩ = some (.slice a1 m1 q1) ∧ w.cell? ⟨b, o + k * 6 + 5, none⟩ = some (.slice a2 m2 q2) := by
  obtain ⟨c', h1, h2⟩ := r.get hx
  obtain ⟨fx, kx, nx, sx, a1, m1, q1, a2, m2, q2, rfl⟩ := cells6 h1
  obtain ⟨a', cap, hv, _, _, _, h3⟩ := s
  obtain ⟨rfl, _, _⟩ : a = a' ∧ True ∧ True := by cases hv; exact ⟨rfl, trivial, trivial⟩
  obtain ⟨b, o, rfl, e0⟩ := h3 _ _ (h2 0 _ rfl)
  obtain ⟨b1, o1, hb1, e1⟩ := h3 _ _ (h2 1 _ rfl)
  obtain ⟨b2, o2, hb2, e2⟩ := h3 _ _ (h2 2 _ rfl)
  obtain ⟨b3, o3, hb3, e3⟩ := h3 _ _ (h2 3 _ rfl)
  obtain ⟨b4, o4, hb4, e4⟩ := h3 _ _ (h2 4 _ rfl)
  obtain ⟨b5, o5, hb5, e5⟩ := h3 _ _ (h2 5 _ rfl)
  cases hb1; cases hb2; cases hb3; cases hb4; cases hb5
  exact ⟨b, o, fx, kx, nx, sx, a1, m1, q1, a2, m2, q2, rfl, h1, e0, e1, e2, e3, e4, e5⟩
/-- The contract of a comparison of fields at one left side. -/
def CmpFAt (f : Nat) (x : F) : Prop := ∀ (y : F) (cs cs' : List Value) (w : World), RepF w x cs → RepF w y cs' → Calls Try.prog f #[.agg cs.toArray, .agg cs'.toArray] w (IntPost (cmpF x y) w)

set_option maxHeartbeats 1000000 in
theorem compareFunc_fields (is is' : List F) (a a' : Option Addr) (c c' : Nat) (ics ics' : List Value) (w : World)
    (s1 : Sl w (.slice a is.length c) is.length ics) (s2 : Sl w (.slice a' is'.length c') is'.length ics') (r1 : RepFs w is ics) (r2 : RepFs w is' ics')
    (hf : ∀ x ∈ is, CmpFAt 54 x) :
    Calls Try.prog 53 #[.slice a is.length c, .slice a' is'.length c', .func (.func 54) #[] #[]] w (IntPost (cmpFs is is') w) := by
  go_enter Try.func53, Try.ntmps53
  go_wp2
  have HF := Lib.hid hf
  have hl1 : is.length ≤ 9223372036854775807 := by obtain ⟨_, _, hv, h1, h2, _⟩ := s1; cases hv; unfold maxLen at h2; omega
  have hl2 : is'.length ≤ 9223372036854775807 := by obtain ⟨_, _, hv, h1, h2, _⟩ := s2; cases hv; unfold maxLen at h2; omega
  clear hf
  go_loopw [13] (fun i wr => ∃ k : Nat, k ≤ is.length ∧ k ≤ is'.length ∧ i = .int .i64 k ∧ Hid (cmpFs is is' = cmpFs (is.drop k) (is'.drop k)) ∧ Below w.heap.size w wr) (fun i _ => is.length - (intOf i).toNat)
  case atStart => exact ⟨0, by omega, by omega, rfl, rfl, Below.refl _ _⟩
  case round =>
    obtain ⟨k, hk, hk', rfl, HC, hb⟩ := hrel
    by_cases hlt : k < is.length
    · obtain ⟨b, o, fx, kx, nx, sx, a1, m1, q1, a2, m2, q2, rfl, rx, e0, e1, e2, e3, e4, e5⟩ := field_cells (s1.ext hb) (r1.ext hb) (List.getElem?_eq_getElem hlt)
      by_cases hlt' : k < is'.length
      · obtain ⟨b', o', fy, ky, ny, sy, a3, m3, q3, a4, m4, q4, rfl, ry, f0, f1, f2, f3, f4, f5⟩ := field_cells (s2.ext hb) (r2.ext hb) (List.getElem?_eq_getElem hlt')
        have l0 := World.block_lt_of_cell? _ _ e0
        have l1 := World.block_lt_of_cell? _ _ f0
        go_wp2_with fail
        refine (HF.out is[k] (List.getElem_mem _) is'[k] _ _ _ (RepF.ext ?_ rx) (RepF.ext ?_ ry)).mono ?_
        · go_grown
        · go_grown
        rintro e w2 ⟨rfl, hb2⟩
        have hsz := hb.size
        have hbw : Below w.heap.size w w2 := hb.trans (Below.trans (by go_grown) (hb2.mono (by have := hb.size; simp; omega)))
        have hor : cmpFs is is' = orI (cmpF is[k] is'[k]) (cmpFs (is.drop (k + 1)) (is'.drop (k + 1))) := by
          rw [HC.out, drop_cons (List.getElem?_eq_getElem hlt), drop_cons (List.getElem?_eq_getElem hlt')]; simp only [cmpFs]
        have HO := Lib.hid hor
        clear hor hb2
        generalize hz : cmpF is[k] is'[k] = z at *
        by_cases hz0 : z = 0
        · have hne : (z != 0) = false := by simp [hz0]
          have HZ := Lib.hid hz0
          clear hz hz0
          go_wp2
          go_roundw
          case rel => exact ⟨k + 1, by omega, by omega, by go_num, (by have := HO.out; rw [HZ.out] at this; exact this), hbw⟩
          case measure => simp [intOf]; omega
        · have hne : (z != 0) = true := by simp [hz0]
          clear hz
          have hfin : cmpFs is is' = z := by rw [HO.out]; unfold orI; rw [if_neg hz0]
          have HN := Lib.hid hfin
          clear hfin hz0
          go_wp2
          go_ret
          exact ⟨ret_int HN.out.symm, hbw⟩
      · have hfin : cmpFs is is' = 1 := by
          rw [HC.out, drop_cons (List.getElem?_eq_getElem hlt), drop_nil is' k (by omega)]; simp only [cmpFs]
        have HN := Lib.hid hfin
        clear hfin
        go_wp2
        go_ret
        have hsz := hb.size
        exact ⟨ret_int HN.out.symm, hb.trans (by go_grown)⟩
    · by_cases hlt' : is.length < is'.length
      · have hfin : cmpFs is is' = -1 := by
          rw [HC.out, drop_nil is k (by omega), drop_cons (List.getElem?_eq_getElem (show k < is'.length by omega))]; simp only [cmpFs]
        have HN := Lib.hid hfin
        clear hfin
        go_wp2
        go_ret
        exact ⟨ret_int HN.out.symm, hb⟩
      · have hfin : cmpFs is is' = 0 := by
          rw [HC.out, drop_nil is k (by omega), drop_nil is' k (by omega)]; simp only [cmpFs]
        have HN := Lib.hid hfin
        clear hfin
        go_wp2
        go_ret
        exact ⟨ret_int HN.out.symm, hb⟩
end Go.Proofs.Ytkjgifhklajifaa
namespace Go.Proofs.Ytkjgifhklajifaa
open Go.RowKit
set_option maxHeartbeats 1000000 in
theorem compareFields_at (nm : ByteArray) (x : V) (hx : CmpAt 32 x) : CmpFAt 54 (.mk nm x) := by
  intro y cs cs' w h h'
  cases y with | mk nm' y =>
  simp only [RepF] at h h'
  obtain ⟨c, rfl, hn, h⟩ := h
  obtain ⟨c', rfl, hn', h'⟩ := h'
  obtain ⟨kx, nx, sx, a1, m1, q1, a2, m2, q2, rfl⟩ := cells5 h
  obtain ⟨ky, ny, sy, a3, m3, q3, a4, m4, q4, rfl⟩ := cells5 h'
  simp only [cmpF]
  have HX := Lib.hid hx
  clear hx
  go_enter Try.func54, Try.ntmps54
  go_wp2_with fail
  refine wp_box2 fun W hsz hbW hA hB => ?_
  have HR := Lib.hid (h.ext hbW)
  have HR' := Lib.hid (h'.ext hbW)
  go_region_held3 (S2 W w.heap.size #[Value.string nm, Value.int IntKind.i64 kx, Value.int IntKind.i64 nx, Value.string sx, Value.slice a1 m1 q1, Value.slice a2 m2 q2] (w.heap.size + 1) #[Value.string nm', Value.int IntKind.i64 ky, Value.int IntKind.i64 ny, Value.string sy, Value.slice a3 m3 q3, Value.slice a4 m4 q4])
    (first | exact S2.start hA hB | exact S2.ext (by assumption) (by assumption) hA hB | exact S2.ext (ext_alloc _ _) (by assumption) hA hB | assumption)
    (first | (go_at_call 35; refine (strings_Compare _ _ _).mono ?_; rintro e w1 ⟨rfl, rfl⟩) | (go_at_call 32; refine (HX.out y _ _ _ (HR.out.ext (S2.base (by assumption))) (HR'.out.ext (S2.base (by assumption)))).mono ?_; rintro e w2 ⟨rfl, hb2⟩) | (go_at_call 64; refine (or_two (cmpS nm nm') (cmpV x y) _ _ (by simp) (by simp)).mono ?_; rintro e w3 ⟨rfl, rfl⟩))
  go_wp2
  go_ret
  exact ⟨rfl, ext_trans hbW (S2.base (by assumption))⟩

set_option maxHeartbeats 2000000 in
theorem compare_step (k n : Int) (s : ByteArray) (is : List V) (fs : List F) (hi : ∀ x ∈ is, CmpAt 32 x) (hf : ∀ x ∈ fs, CmpFAt 54 x) : CmpAt 32 (.mk k n s is fs) := by
  intro y cs cs' w h h'
  cases y with | mk k' n' s' is' fs' =>
  simp only [RepV] at h h'
  obtain ⟨vi, vf, ics, fcs, rfl, ok1, ok2, hs, si, ri, sf, rf⟩ := h
  obtain ⟨vi', vf', ics', fcs', rfl, ok1', ok2', hs', si', ri', sf', rf'⟩ := h'
  obtain ⟨a1, q1, rfl, si0⟩ := id si
  obtain ⟨a2, q2, rfl, sf0⟩ := id sf
  obtain ⟨a3, q3, rfl, si0'⟩ := id si'
  obtain ⟨a4, q4, rfl, sf0'⟩ := id sf'
  clear si0 sf0 si0' sf0' ok1 ok2 ok1' ok2'
  have HI := Lib.hid hi
  have HF := Lib.hid hf
  clear hi hf
  by_cases hk : k = k'
  · subst hk
    have hne : (k != k) = false := by simp
    by_cases h12 : k = 1 ∨ k = 2
    · have hv : cmpV (.mk k n s is fs) (.mk k n' s' is' fs') = cmpI n n' := by simp only [cmpV]; rw [if_neg (by simp), if_pos h12]
      rw [hv]
      clear hv
      rcases h12 with rfl | rfl
      all_goals
        go_enter Try.func32, Try.ntmps32
        go_wp2_with (go_at_call 37; refine (cmp_int _ _ _).mono ?_; rintro e w1 ⟨rfl, rfl⟩)
        go_ret
        exact ⟨rfl, by go_grown⟩
    · have h1 : (k == 1) = false := by simp; omega
      have h2 : (k == 2) = false := by simp; omega
      by_cases h3 : k = 3
      · have hv : cmpV (.mk k n s is fs) (.mk k n' s' is' fs') = cmpS s s' := by simp only [cmpV]; rw [if_neg (by simp), if_neg h12, if_pos h3]
        rw [hv]
        clear hv h12 h1 h2 hne
        subst h3
        go_enter Try.func32, Try.ntmps32
        go_wp2_with (go_at_call 35; refine (strings_Compare _ _ _).mono ?_; rintro e w1 ⟨rfl, rfl⟩)
        go_ret
        exact ⟨rfl, by go_grown⟩
      · by_cases h4 : k = 4
        · have hv : cmpV (.mk k n s is fs) (.mk k n' s' is' fs') = cmpL is is' := by simp only [cmpV]; rw [if_neg (by simp), if_neg h12, if_neg h3, if_pos h4]
          rw [hv]
          clear hv h12 h1 h2 hne h3
          subst h4
          go_enter Try.func32, Try.ntmps32
          go_wp2_with fail
          refine (compareFunc_items is is' a1 a3 q1 q3 ics ics' _ (si.ext ?_) (si'.ext ?_) (ri.ext ?_) (ri'.ext ?_) HI.out).mono ?_
          · go_grown
          · go_grown
          · go_grown
          · go_grown
          rintro e w1 ⟨rfl, hb1⟩
          go_wp2
          go_ret
          exact ⟨rfl, Below.trans (by go_grown) (hb1.mono (by simp; omega))⟩
        · by_cases h5 : k = 5
          · have hv : cmpV (.mk k n s is fs) (.mk k n' s' is' fs') = cmpFs fs fs' := by simp only [cmpV]; rw [if_neg (by simp), if_neg h12, if_neg h3, if_neg h4, if_pos h5]
            rw [hv]
            clear hv h12 h1 h2 hne h3 h4
            subst h5
            go_enter Try.func32, Try.ntmps32
            go_wp2_with fail
            refine (compareFunc_fields fs fs' a2 a4 q2 q4 fcs fcs' _ (sf.ext ?_) (sf'.ext ?_) (rf.ext ?_) (rf'.ext ?_) HF.out).mono ?_
            · go_grown
            · go_grown
            · go_grown
            · go_grown
            rintro e w1 ⟨rfl, hb1⟩
            go_wp2
            go_ret
            exact ⟨rfl, Below.trans (by go_grown) (hb1.mono (by simp; omega))⟩
          · have hv : cmpV (.mk k n s is fs) (.mk k n' s' is' fs') = 0 := by simp only [cmpV]; rw [if_neg (by simp), if_neg h12, if_neg h3, if_neg h4, if_neg h5]
            have e3 : (k == 3) = false := by simp [h3]
            have e4 : (k == 4) = false := by simp [h4]
            have e5 : (k == 5) = false := by simp [h5]
            rw [hv]
            clear hv h12 h3 h4 h5
            go_enter Try.func32, Try.ntmps32
            go_wp2
            go_ret
            exact ⟨rfl, by go_grown⟩
  · have hv : cmpV (.mk k n s is fs) (.mk k' n' s' is' fs') = cmpI k k' := by simp only [cmpV]; rw [if_pos hk]
    have hne : (k != k') = true := by simp [hk]
    rw [hv]
    clear hv hk
    go_enter Try.func32, Try.ntmps32
    go_wp2_with (go_at_call 37; refine (cmp_int _ _ _).mono ?_; rintro e w1 ⟨rfl, rfl⟩)
    go_ret
    exact ⟨rfl, by go_grown⟩
mutual
theorem compare_at : ∀ x : V, CmpAt 32 x
  | .mk k n s is fs => compare_step k n s is fs (compare_items is) (compare_fields fs)
theorem compare_items : ∀ l : List V, ∀ x ∈ l, CmpAt 32 x
  | [] => fun _ h => by cases h
  | y :: l => fun x h => (List.mem_cons.1 h).elim (fun e => e ▸ compare_at y) (fun h => compare_items l x h)
theorem compare_field : ∀ x : F, CmpFAt 54 x
  | .mk nm x => compareFields_at nm x (compare_at x)
theorem compare_fields : ∀ l : List F, ∀ x ∈ l, CmpFAt 54 x
  | [] => fun _ h => by cases h
  | y :: l => fun x h => (List.mem_cons.1 h).elim (fun e => e ▸ compare_field y) (fun h => compare_fields l x h)
end
end Go.Proofs.Ytkjgifhklajifaa
