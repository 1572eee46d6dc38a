/- The reference's Compare. same of package burgeelaw1. Printed by gen_lawpms.py. The law that Read is as specified: the walk. Printed by gen_lawrds.py. -/
import Derived.Test.YtbhcfmdogdaodaaGreatDoorRz32
import Derived.Test.YtbhcfmdogdaodaaGreatDoorRz02
import Derived.Test.YtbhcfmdogdaodaaGreatDoorRz10
import Derived.Test.YtbhcfmdogdaodaaGreatDoorRz21
import Derived.Test.YtbhcfmdogdaodaaGreatDoorRz34
namespace Go.Proofs.YtbhcfmdogdaodaaGreatDoor
open Go.RowKit

/-- five cells of a value -/
abbrev C5 (w' : World) (b o : Nat) (kx nx : Int) (sx : ByteArray) (a1 : Option Addr) (m1 q1 : Nat) (a2 : Option Addr) (m2 q2 : Nat) : Prop :=
  w'.cell? ⟨b, o, none⟩ = some (.int .i64 kx) ∧ w'.cell? ⟨b, o + 1, none⟩ = some (.int .i64 nx) ∧ w'.cell? ⟨b, o + 2, none⟩ = some (.string sx) ∧ w'.cell? ⟨b, o + 3, none⟩ = some (.slice a1 m1 q1) ∧ w'.cell? ⟨b, o + 4, none⟩ = some (.slice a2 m2 q2)
theorem C5.ext {w w' : World} {b o : Nat} {kx nx : Int} {sx : ByteArray} {a1 : Option Addr} {m1 q1 : Nat} {a2 : Option Addr} {m2 q2 : Nat} (hb : Below w.heap.size w w') (h : C5 w b o kx nx sx a1 m1 q1 a2 m2 q2) : C5 w' b o kx nx sx a1 m1 q1 a2 m2 q2 :=
  ⟨cell_later hb h.1, cell_later hb h.2.1, cell_later hb h.2.2.1, cell_later hb h.2.2.2.1, cell_later hb h.2.2.2.2⟩
/-- what is held while the reference compares two items -/
abbrev SI (W : World) (b1 : Nat) (A1 : Array Value) (b2 : Nat) (A2 : Array Value) (b o : Nat) (kx nx : Int) (sx : ByteArray) (a1 : Option Addr) (m1 q1 : Nat) (a2 : Option Addr) (m2 q2 : Nat) (b' o' : Nat) (ky ny : Int) (sy : ByteArray) (a3 : Option Addr) (m3 q3 : Nat) (a4 : Option Addr) (m4 q4 : Nat) (w' : World) : Prop :=
  S2 W b1 A1 b2 A2 w' ∧ C5 w' b o kx nx sx a1 m1 q1 a2 m2 q2 ∧ C5 w' b' o' ky ny sy a3 m3 q3 a4 m4 q4
theorem SI.ext {W w1 w2 : World} {b1 : Nat} {A1 : Array Value} {b2 : Nat} {A2 : Array Value} {b o : Nat} {kx nx : Int} {sx : ByteArray} {a1 : Option Addr} {m1 q1 : Nat} {a2 : Option Addr} {m2 q2 : Nat} {b' o' : Nat} {ky ny : Int} {sy : ByteArray} {a3 : Option Addr} {m3 q3 : Nat} {a4 : Option Addr} {m4 q4 : Nat}
    (hb : Below w1.heap.size w1 w2) (h : SI W b1 A1 b2 A2 b o kx nx sx a1 m1 q1 a2 m2 q2 b' o' ky ny sy a3 m3 q3 a4 m4 q4 w1) (h1 : Box W b1 A1) (h2 : Box W b2 A2) : SI W b1 A1 b2 A2 b o kx nx sx a1 m1 q1 a2 m2 q2 b' o' ky ny sy a3 m3 q3 a4 m4 q4 w2 :=
  ⟨S2.ext hb h.1 h1 h2, C5.ext hb h.2.1, C5.ext hb h.2.2⟩
theorem SI.base {W w1 : World} {b1 : Nat} {A1 : Array Value} {b2 : Nat} {A2 : Array Value} {b o : Nat} {kx nx : Int} {sx : ByteArray} {a1 : Option Addr} {m1 q1 : Nat} {a2 : Option Addr} {m2 q2 : Nat} {b' o' : Nat} {ky ny : Int} {sy : ByteArray} {a3 : Option Addr} {m3 q3 : Nat} {a4 : Option Addr} {m4 q4 : Nat}
    (h : SI W b1 A1 b2 A2 b o kx nx sx a1 m1 q1 a2 m2 q2 b' o' ky ny sy a3 m3 q3 a4 m4 q4 w1) : Below W.heap.size W w1 := h.1.1

theorem cmpL_end (l l' : List V) (k : Nat) (h : k ≤ l.length) (h' : k ≤ l'.length) (hk : k = l.length ∨ k = l'.length) : cmpL (l.drop k) (l'.drop k) = cmpI l.length l'.length := by
  unfold cmpI
  by_cases h1 : l.length < l'.length
  · rw [if_pos (by omega), drop_nil l k (by omega), drop_cons (List.getElem?_eq_getElem (show k < l'.length by omega))]; simp only [cmpL]
  · by_cases h2 : l'.length < l.length
    · rw [if_neg (by omega), if_pos (by omega), drop_nil l' k (by omega), drop_cons (List.getElem?_eq_getElem (show k < l.length by omega))]; simp only [cmpL]
    · rw [if_neg (by omega), if_neg (by omega), drop_nil l k (by omega), drop_nil l' k (by omega)]; simp only [cmpL]
set_option maxHeartbeats 2000000 in
theorem ref_list (n : Int) (s : ByteArray) (is : List V) (fs : List F) (hi : ∀ x ∈ is, CmpAt 15 x) (n' : Int) (s' : ByteArray) (is' : List V) (fs' : List F) (cs cs' : List Value) (w : World)
    (h : RepV w (.mk 4 n s is fs) cs) (h' : RepV w (.mk 4 n' s' is' fs') cs') :
    Calls Tryz.prog 15 #[.agg cs.toArray, .agg cs'.toArray] w (IntPost (cmpL is is') w) := by
  simp only [RepV] at h h'
  obtain ⟨vi, vf, ics, fcs, rfl, ok1, ok2, hs, si, ri, sf, rf⟩ := h
  obtain ⟨vi', vf', ics', fcs', rfl, ok1', ok2', hs', si', ri', sf', rf'⟩ := h'
  obtain ⟨a1, q1, rfl, hle, hmx, si0⟩ := id si
  obtain ⟨a2, q2, rfl, sf0⟩ := id sf
  obtain ⟨a3, q3, rfl, hle', hmx', si0'⟩ := id si'
  obtain ⟨a4, q4, rfl, sf0'⟩ := id sf'
  unfold maxLen at hmx hmx'
  clear si0 sf0 si0' sf0' ok1 ok2 ok1' ok2'
  have HI := Lib.hid hi
  clear hi
  have hc0 : cmpI 4 4 = 0 := by decide
  have hcmp : ∀ k, k ≤ is.length → k ≤ is'.length → k = is.length ∨ k = is'.length → cmpL (is.drop k) (is'.drop k) = cmpI is.length is'.length := cmpL_end is is'
  have HCM := Lib.hid hcmp
  clear hcmp
  rcases Nat.lt_or_ge is'.length is.length with hm | hm
  all_goals
    go_enter Tryz.func15, Tryz.ntmps15
    go_wp2_with (go_at_call 33; refine (cmp_int _ _ _).mono ?_; rintro e w1 ⟨rfl, rfl⟩)
    refine wp_box2 fun W hsz hbW hA hB => ?_
    go_loopw [44] (fun i wr => ∃ k : Nat, k ≤ is.length ∧ k ≤ is'.length ∧ i = .int .i64 k ∧ Hid (cmpL is is' = cmpL (is.drop k) (is'.drop k)) ∧ Below W.heap.size W wr) (fun i _ => is.length - (intOf i).toNat)
    case atStart => exact ⟨0, by omega, by omega, rfl, rfl, Below.refl _ _⟩
    case round =>
      obtain ⟨k, hk, hk', rfl, HC, hb⟩ := hrel
      have hbw := ext_trans hbW hb
      have hA' := hA.ext hb
      have hB' := hB.ext hb
      by_cases hlt : k < is.length ∧ k < is'.length
      · obtain ⟨hl, hl'⟩ := hlt
        obtain ⟨b, o, kx, nx, sx, c1, m1, p1, c2, m2, p2, rfl, rx, e0, e1, e2, e3, e4⟩ := item_cells (si.ext hbw) (ri.ext hbw) (List.getElem?_eq_getElem hl)
        obtain ⟨b', o', ky, ny, sy, c3, m3, p3, c4, m4, p4, rfl, ry, f0, f1, f2, f3, f4⟩ := item_cells (si'.ext hbw) (ri'.ext hbw) (List.getElem?_eq_getElem hl')
        have HX := Lib.hid rx
        have HY := Lib.hid ry
        clear rx ry
        go_wp2_with fail
        go_region_held3 (SI wr w.heap.size #[Value.int IntKind.i64 4, Value.int IntKind.i64 n, Value.string s, Value.slice (some ⟨b, o, none⟩) is.length q1, Value.slice a2 fs.length q2] (w.heap.size + 1) #[Value.int IntKind.i64 4, Value.int IntKind.i64 n', Value.string s', Value.slice (some ⟨b', o', none⟩) is'.length q3, Value.slice a4 fs'.length q4] b (o + k * 5) kx nx sx c1 m1 p1 c2 m2 p2 b' (o' + k * 5) ky ny sy c3 m3 p3 c4 m4 p4) (first | exact ⟨S2.start hA' hB', ⟨e0, e1, e2, e3, e4⟩, ⟨f0, f1, f2, f3, f4⟩⟩ | exact SI.ext (by assumption) (by assumption) hA' hB' | assumption) (first | (go_at_call 15; refine (HI.out is[k] (List.getElem_mem _) is'[k] _ _ _ (HX.out.ext (SI.base (by assumption))) (HY.out.ext (SI.base (by assumption)))).mono ?_; rintro e w2 ⟨rfl, hb2⟩))
        have hb3 : Below W.heap.size W w2 := ext_trans hb.drew hb2
        have hor : cmpL is is' = orI (cmpV is[k] is'[k]) (cmpL (is.drop (k + 1)) (is'.drop (k + 1))) := by
          rw [HC.out, drop_cons (List.getElem?_eq_getElem hl), drop_cons (List.getElem?_eq_getElem hl')]; simp only [cmpL]
        have HO := Lib.hid hor
        clear hor hb2
        generalize hz : cmpV is[k] is'[k] = z at *
        by_cases hz0 : z = 0
        · have hne : (z != 0) = false := by simp [hz0]
          have HZ := Lib.hid hz0
          clear hz hz0
          go_wp2
          go_roundw
          case rel => exact ⟨k + 1, by omega, by omega, by go_num, (by have := HO.out; rw [HZ.out] at this; exact this), hb3⟩
          case measure => simp [intOf]; omega
        · have hne : (z != 0) = true := by simp [hz0]
          clear hz
          have hfin : cmpL is is' = z := by rw [HO.out]; unfold orI; rw [if_neg hz0]
          have HN := Lib.hid hfin
          clear hfin hz0
          go_wp2
          go_ret
          exact ⟨ret_int HN.out.symm, ext_trans hbW hb3⟩
      · have hfin : cmpL is is' = cmpI is.length is'.length := by rw [HC.out]; exact HCM.out k hk hk' (by omega)
        have HN := Lib.hid hfin
        obtain ⟨_, hA2⟩ := hA'
        obtain ⟨_, hB2⟩ := hB'
        first | (have hge : ¬ k < is.length := by omega) | (have hge : ¬ k < is'.length := by omega)
        clear hfin hlt
        go_wp2_with (go_at_call 33; refine (cmp_int _ _ _).mono ?_; rintro e w1 ⟨rfl, rfl⟩)
        go_ret
        exact ⟨ret_int HN.out.symm, hbw⟩
/-- what is held while the reference compares two fields -/
abbrev SF (W : World) (b1 : Nat) (A1 : Array Value) (b2 : Nat) (A2 : Array Value) (b o : Nat) (fx : ByteArray) (kx nx : Int) (sx : ByteArray) (a1 : Option Addr) (m1 q1 : Nat) (a2 : Option Addr) (m2 q2 : Nat) (b' o' : Nat) (fy : ByteArray) (ky ny : Int) (sy : ByteArray) (a3 : Option Addr) (m3 q3 : Nat) (a4 : Option Addr) (m4 q4 : Nat) (w' : World) : Prop :=
  S2 W b1 A1 b2 A2 w' ∧ w'.cell? ⟨b, o, none⟩ = some (.string fx) ∧ C5 w' b (o + 1) kx nx sx a1 m1 q1 a2 m2 q2 ∧ w'.cell? ⟨b', o', none⟩ = some (.string fy) ∧ C5 w' b' (o' + 1) ky ny sy a3 m3 q3 a4 m4 q4
theorem SF.ext {W w1 w2 : World} {b1 : Nat} {A1 : Array Value} {b2 : Nat} {A2 : Array Value} {b o : Nat} {fx : ByteArray} {kx nx : Int} {sx : ByteArray} {a1 : Option Addr} {m1 q1 : Nat} {a2 : Option Addr} {m2 q2 : Nat} {b' o' : Nat} {fy : ByteArray} {ky ny : Int} {sy : ByteArray} {a3 : Option Addr} {m3 q3 : Nat} {a4 : Option Addr} {m4 q4 : Nat}
    (hb : Below w1.heap.size w1 w2) (h : SF W b1 A1 b2 A2 b o fx kx nx sx a1 m1 q1 a2 m2 q2 b' o' fy ky ny sy a3 m3 q3 a4 m4 q4 w1) (h1 : Box W b1 A1) (h2 : Box W b2 A2) : SF W b1 A1 b2 A2 b o fx kx nx sx a1 m1 q1 a2 m2 q2 b' o' fy ky ny sy a3 m3 q3 a4 m4 q4 w2 :=
  ⟨S2.ext hb h.1 h1 h2, cell_later hb h.2.1, C5.ext hb h.2.2.1, cell_later hb h.2.2.2.1, C5.ext hb h.2.2.2.2⟩
theorem SF.base {W w1 : World} {b1 : Nat} {A1 : Array Value} {b2 : Nat} {A2 : Array Value} {b o : Nat} {fx : ByteArray} {kx nx : Int} {sx : ByteArray} {a1 : Option Addr} {m1 q1 : Nat} {a2 : Option Addr} {m2 q2 : Nat} {b' o' : Nat} {fy : ByteArray} {ky ny : Int} {sy : ByteArray} {a3 : Option Addr} {m3 q3 : Nat} {a4 : Option Addr} {m4 q4 : Nat}
    (h : SF W b1 A1 b2 A2 b o fx kx nx sx a1 m1 q1 a2 m2 q2 b' o' fy ky ny sy a3 m3 q3 a4 m4 q4 w1) : Below W.heap.size W w1 := h.1.1
theorem cmpFs_end (l l' : List F) (k : Nat) (h : k ≤ l.length) (h' : k ≤ l'.length) (hk : k = l.length ∨ k = l'.length) : cmpFs (l.drop k) (l'.drop k) = cmpI l.length l'.length := by
  unfold cmpI
  by_cases h1 : l.length < l'.length
  · rw [if_pos (by omega), drop_nil l k (by omega), drop_cons (List.getElem?_eq_getElem (show k < l'.length by omega))]; simp only [cmpFs]
  · by_cases h2 : l'.length < l.length
    · rw [if_neg (by omega), if_pos (by omega), drop_nil l' k (by omega), drop_cons (List.getElem?_eq_getElem (show k < l.length by omega))]; simp only [cmpFs]
    · rw [if_neg (by omega), if_neg (by omega), drop_nil l k (by omega), drop_nil l' k (by omega)]; simp only [cmpFs]
set_option maxHeartbeats 2000000 in
theorem ref_fields (n : Int) (s : ByteArray) (is : List V) (fs : List F) (hf : ∀ nm x, F.mk nm x ∈ fs → CmpAt 15 x) (n' : Int) (s' : ByteArray) (is' : List V) (fs' : List F) (cs cs' : List Value) (w : World)
    (h : RepV w (.mk 5 n s is fs) cs) (h' : RepV w (.mk 5 n' s' is' fs') cs') :
    Calls Tryz.prog 15 #[.agg cs.toArray, .agg cs'.toArray] w (IntPost (cmpFs fs fs') w) := by
  simp only [RepV] at h h'
  obtain ⟨vi, vf, ics, fcs, rfl, ok1, ok2, hs, si, ri, sf, rf⟩ := h
  obtain ⟨vi', vf', ics', fcs', rfl, ok1', ok2', hs', si', ri', sf', rf'⟩ := h'
  obtain ⟨a1, q1, rfl, si0⟩ := id si
  obtain ⟨a2, q2, rfl, hle, hmx, sf0⟩ := id sf
  obtain ⟨a3, q3, rfl, si0'⟩ := id si'
  obtain ⟨a4, q4, rfl, hle', hmx', sf0'⟩ := id sf'
  unfold maxLen at hmx hmx'
  clear si0 sf0 si0' sf0' ok1 ok2 ok1' ok2'
  have HI := Lib.hid hf
  clear hf
  have hc0 : cmpI 5 5 = 0 := by decide
  have hcmp : ∀ k, k ≤ fs.length → k ≤ fs'.length → k = fs.length ∨ k = fs'.length → cmpFs (fs.drop k) (fs'.drop k) = cmpI fs.length fs'.length := cmpFs_end fs fs'
  have HCM := Lib.hid hcmp
  clear hcmp
  rcases Nat.lt_or_ge fs'.length fs.length with hm | hm
  all_goals
    go_enter Tryz.func15, Tryz.ntmps15
    go_wp2_with (go_at_call 33; refine (cmp_int _ _ _).mono ?_; rintro e w1 ⟨rfl, rfl⟩)
    refine wp_box2 fun W hsz hbW hA hB => ?_
    go_loopw [78] (fun i wr => ∃ k : Nat, k ≤ fs.length ∧ k ≤ fs'.length ∧ i = .int .i64 k ∧ Hid (cmpFs fs fs' = cmpFs (fs.drop k) (fs'.drop k)) ∧ Below W.heap.size W wr) (fun i _ => fs.length - (intOf i).toNat)
    case atStart => exact ⟨0, by omega, by omega, rfl, rfl, Below.refl _ _⟩
    case round =>
      obtain ⟨k, hk, hk', rfl, HC, hb⟩ := hrel
      have hbw := ext_trans hbW hb
      have hA' := hA.ext hb
      have hB' := hB.ext hb
      by_cases hlt : k < fs.length ∧ k < fs'.length
      · obtain ⟨hl, hl'⟩ := hlt
        obtain ⟨b, o, fx, kx, nx, sx, c1, m1, p1, c2, m2, p2, rfl, rx, e0, e1, e2, e3, e4, e5⟩ := field_cells (sf.ext hbw) (rf.ext hbw) (List.getElem?_eq_getElem hl)
        obtain ⟨b', o', fy, ky, ny, sy, c3, m3, p3, c4, m4, p4, rfl, ry, f0, f1, f2, f3, f4, f5⟩ := field_cells (sf'.ext hbw) (rf'.ext hbw) (List.getElem?_eq_getElem hl')
        obtain ⟨X, HX, HXm, HXc⟩ : ∃ X, Hid (RepV wr X [.int .i64 kx, .int .i64 nx, .string sx, .slice c1 m1 p1, .slice c2 m2 p2]) ∧ Hid (CmpAt 15 X) ∧ Hid (fs[k] = .mk fx X) := by
          cases hq : fs[k] with | mk nm X =>
          rw [hq] at rx
          simp only [RepF] at rx
          obtain ⟨c, hc, _, hr⟩ := rx
          cases hc
          exact ⟨X, hr, HI.out _ X (by rw [← hq]; exact List.getElem_mem _), rfl⟩
        obtain ⟨Y, HY, HYc⟩ : ∃ Y, Hid (RepV wr Y [.int .i64 ky, .int .i64 ny, .string sy, .slice c3 m3 p3, .slice c4 m4 p4]) ∧ Hid (fs'[k] = .mk fy Y) := by
          cases hq : fs'[k] with | mk nm Y =>
          rw [hq] at ry
          simp only [RepF] at ry
          obtain ⟨c, hc, _, hr⟩ := ry
          cases hc
          exact ⟨Y, hr, rfl⟩
        have hor : cmpFs fs fs' = orI (orI (cmpS fx fy) (cmpV X Y)) (cmpFs (fs.drop (k + 1)) (fs'.drop (k + 1))) := by
          rw [HC.out, drop_cons (List.getElem?_eq_getElem hl), drop_cons (List.getElem?_eq_getElem hl'), HXc.out, HYc.out]; simp only [cmpFs, cmpF]
        have HO := Lib.hid hor
        clear hor rx ry
        go_wp2_with fail
        go_region_held3 (SF wr w.heap.size #[Value.int IntKind.i64 5, Value.int IntKind.i64 n, Value.string s, Value.slice a1 is.length q1, Value.slice (some ⟨b, o, none⟩) fs.length q2] (w.heap.size + 1) #[Value.int IntKind.i64 5, Value.int IntKind.i64 n', Value.string s', Value.slice a3 is'.length q3, Value.slice (some ⟨b', o', none⟩) fs'.length q4] b (o + k * 6) fx kx nx sx c1 m1 p1 c2 m2 p2 b' (o' + k * 6) fy ky ny sy c3 m3 p3 c4 m4 p4) (first | exact ⟨S2.start hA' hB', e0, ⟨e1, e2, e3, e4, e5⟩, f0, ⟨f1, f2, f3, f4, f5⟩⟩ | exact SF.ext (by assumption) (by assumption) hA' hB' | assumption) (first | (go_at_call 34; refine (cmp_string _ _ _).mono ?_; rintro e w2 ⟨rfl, rfl⟩))
        have T : Below W.heap.size W wr.drew ∧ Box wr.drew w.heap.size #[Value.int IntKind.i64 5, Value.int IntKind.i64 n, Value.string s, Value.slice a1 is.length q1, Value.slice (some ⟨b, o, none⟩) fs.length q2] ∧ Box wr.drew (w.heap.size + 1) #[Value.int IntKind.i64 5, Value.int IntKind.i64 n', Value.string s', Value.slice a3 is'.length q3, Value.slice (some ⟨b', o', none⟩) fs'.length q4] ∧ SF wr.drew w.heap.size #[Value.int IntKind.i64 5, Value.int IntKind.i64 n, Value.string s, Value.slice a1 is.length q1, Value.slice (some ⟨b, o, none⟩) fs.length q2] (w.heap.size + 1) #[Value.int IntKind.i64 5, Value.int IntKind.i64 n', Value.string s', Value.slice a3 is'.length q3, Value.slice (some ⟨b', o', none⟩) fs'.length q4] b (o + k * 6) fx kx nx sx c1 m1 p1 c2 m2 p2 b' (o' + k * 6) fy ky ny sy c3 m3 p3 c4 m4 p4 wr.drew.drew ∧ Hid (RepV wr.drew X [.int .i64 kx, .int .i64 nx, .string sx, .slice c1 m1 p1, .slice c2 m2 p2]) ∧ Hid (RepV wr.drew Y [.int .i64 ky, .int .i64 ny, .string sy, .slice c3 m3 p3, .slice c4 m4 p4]) :=
          ⟨hb.drew, hA', hB', ⟨S2.start hA' hB', e0, ⟨e1, e2, e3, e4, e5⟩, f0, ⟨f1, f2, f3, f4, f5⟩⟩, HX.out.ext (Below.refl _ _).drew, HY.out.ext (Below.refl _ _).drew⟩
        clear HX HY hA' hB' e0 e1 e2 e3 e4 e5 f0 f1 f2 f3 f4 f5 hbw hb
        generalize wr.drew = w3 at T ⊢
        obtain ⟨hb, hA', hB', hS, HX, HY⟩ := T
        have HS := Lib.hid hS
        clear hS
        by_cases hz0 : cmpS fx fy = 0
        · have HZ := Lib.hid hz0
          have hz1 : (cmpS fx fy == 0) = true := by simp [hz0]
          clear hz0
          go_wp2_with fail
          go_region_held3 (SF w3 w.heap.size #[Value.int IntKind.i64 5, Value.int IntKind.i64 n, Value.string s, Value.slice a1 is.length q1, Value.slice (some ⟨b, o, none⟩) fs.length q2] (w.heap.size + 1) #[Value.int IntKind.i64 5, Value.int IntKind.i64 n', Value.string s', Value.slice a3 is'.length q3, Value.slice (some ⟨b', o', none⟩) fs'.length q4] b (o + k * 6) fx kx nx sx c1 m1 p1 c2 m2 p2 b' (o' + k * 6) fy ky ny sy c3 m3 p3 c4 m4 p4) (first | exact HS.out | exact SF.ext (by assumption) (by assumption) hA' hB' | assumption) (first | (go_at_call 15; refine (HXm.out Y _ _ _ (HX.out.ext (SF.base (by assumption))) (HY.out.ext (SF.base (by assumption)))).mono ?_; rintro e w4 ⟨rfl, hb4⟩))
          have hb5 : Below W.heap.size W w4 := ext_trans hb.drew hb4
          have hoz : orI (cmpS fx fy) (cmpV X Y) = cmpV X Y := by unfold orI; rw [if_pos HZ.out]
          have ho2 := HO.out
          rw [hoz] at ho2
          have HO2 := Lib.hid ho2
          clear ho2 hoz hb4
          generalize hz : cmpV X Y = z at *
          by_cases hz0 : z = 0
          · have hne : (z != 0) = false := by simp [hz0]
            have HZ2 := Lib.hid hz0
            clear hz hz0
            go_wp2
            go_roundw
            case rel => exact ⟨k + 1, by omega, by omega, by go_num, (by have := HO2.out; rw [HZ2.out] at this; exact this), hb5⟩
            case measure => simp [intOf]; omega
          · have hne : (z != 0) = true := by simp [hz0]
            clear hz
            have hfin : cmpFs fs fs' = z := by rw [HO2.out]; unfold orI; rw [if_neg hz0]
            have HN := Lib.hid hfin
            clear hfin hz0
            go_wp2
            go_ret
            exact ⟨ret_int HN.out.symm, ext_trans hbW hb5⟩
        · have hne : (cmpS fx fy != 0) = true := by simp [hz0]
          have hz1 : (cmpS fx fy == 0) = false := by simp [hz0]
          have hfin : cmpFs fs fs' = cmpS fx fy := by rw [HO.out]; unfold orI; rw [if_neg hz0, if_neg hz0]
          have HN := Lib.hid hfin
          clear hfin hz0
          go_wp2
          go_ret
          exact ⟨ret_int HN.out.symm, ext_trans hbW hb⟩
      · have hfin : cmpFs fs fs' = cmpI fs.length fs'.length := by rw [HC.out]; exact HCM.out k hk hk' (by omega)
        have HN := Lib.hid hfin
        obtain ⟨_, hA2⟩ := hA'
        obtain ⟨_, hB2⟩ := hB'
        first | (have hge : ¬ k < fs.length := by omega) | (have hge : ¬ k < fs'.length := by omega)
        clear hfin hlt
        go_wp2_with (go_at_call 33; refine (cmp_int _ _ _).mono ?_; rintro e w1 ⟨rfl, rfl⟩)
        go_ret
        exact ⟨ret_int HN.out.symm, hbw⟩

set_option maxHeartbeats 2000000 in
theorem ref_step (k n : Int) (s : ByteArray) (is : List V) (fs : List F) (hi : ∀ x ∈ is, CmpAt 15 x) (hf : ∀ nm x, F.mk nm x ∈ fs → CmpAt 15 x) : CmpAt 15 (.mk k n s is fs) := by
  intro y cs cs' w h h'
  cases y with | mk k' n' s' is' fs' =>
  by_cases h4 : k = 4 ∧ k' = 4
  · obtain ⟨rfl, rfl⟩ := h4
    have hv : cmpV (.mk 4 n s is fs) (.mk 4 n' s' is' fs') = cmpL is is' := by simp [cmpV]
    rw [hv]
    exact ref_list n s is fs hi n' s' is' fs' cs cs' w h h'
  by_cases h5 : k = 5 ∧ k' = 5
  · obtain ⟨rfl, rfl⟩ := h5
    have hv : cmpV (.mk 5 n s is fs) (.mk 5 n' s' is' fs') = cmpFs fs fs' := by simp [cmpV]
    rw [hv]
    exact ref_fields n s is fs hf n' s' is' fs' cs cs' w h h'
  simp only [RepV] at h h'
  obtain ⟨vi, vf, ics, fcs, rfl, ok1, ok2, hs, si, ri, sf, rf⟩ := h
  obtain ⟨vi', vf', ics', fcs', rfl, ok1', ok2', hs', si', ri', sf', rf'⟩ := h'
  obtain ⟨a1, q1, rfl, si0⟩ := id si
  obtain ⟨a2, q2, rfl, sf0⟩ := id sf
  obtain ⟨a3, q3, rfl, si0'⟩ := id si'
  obtain ⟨a4, q4, rfl, sf0'⟩ := id sf'
  clear si0 sf0 si0' sf0' ok1 ok2 ok1' ok2' hi hf ri sf rf ri' sf' rf' si si'
  by_cases hk : k = k'
  · subst hk
    have hc0 : cmpI k k = 0 := cmpI_self k
    have hne : (cmpI k k != 0) = false := by simp [hc0]
    by_cases h12 : k = 1 ∨ k = 2
    · have hv : cmpV (.mk k n s is fs) (.mk k n' s' is' fs') = cmpI n n' := by simp only [cmpV]; rw [if_neg (by simp), if_pos h12]
      rw [hv]
      clear hv h4 h5
      rcases h12 with rfl | rfl
      all_goals
        go_enter Tryz.func15, Tryz.ntmps15
        go_wp2_with (go_at_call 33; refine (cmp_int _ _ _).mono ?_; rintro e w1 ⟨rfl, rfl⟩)
        go_ret
        exact ⟨rfl, by go_grown⟩
    · have h1 : (k == 1) = false := by simp; omega
      have h2 : (k == 2) = false := by simp; omega
      by_cases h3 : k = 3
      · have hv : cmpV (.mk k n s is fs) (.mk k n' s' is' fs') = cmpS s s' := by simp only [cmpV]; rw [if_neg (by simp), if_neg h12, if_pos h3]
        rw [hv]
        clear hv h12 h1 h2 h4 h5
        subst h3
        go_enter Tryz.func15, Tryz.ntmps15
        go_wp2_with (first | (go_at_call 33; refine (cmp_int _ _ _).mono ?_; rintro e w1 ⟨rfl, rfl⟩) | (go_at_call 34; refine (cmp_string _ _ _).mono ?_; rintro e w1 ⟨rfl, rfl⟩))
        go_ret
        exact ⟨rfl, by go_grown⟩
      · have e3 : (k == 3) = false := by simp [h3]
        have e4 : (k == 4) = false := by simp; omega
        have e5 : (k == 5) = false := by simp; omega
        have hv : cmpV (.mk k n s is fs) (.mk k n' s' is' fs') = 0 := by simp only [cmpV]; rw [if_neg (by simp), if_neg h12, if_neg h3, if_neg (by omega), if_neg (by omega)]
        rw [hv]
        clear hv h12 h3 h4 h5
        go_enter Tryz.func15, Tryz.ntmps15
        go_wp2_with (go_at_call 33; refine (cmp_int _ _ _).mono ?_; rintro e w1 ⟨rfl, rfl⟩)
        go_ret
        exact ⟨rfl, by go_grown⟩
  · have hv : cmpV (.mk k n s is fs) (.mk k' n' s' is' fs') = cmpI k k' := by simp only [cmpV]; rw [if_pos hk]
    have hne : (cmpI k k' != 0) = true := by simp; intro e; exact hk (cmpI_zero e)
    rw [hv]
    clear hv hk h4 h5
    go_enter Tryz.func15, Tryz.ntmps15
    go_wp2_with (go_at_call 33; refine (cmp_int _ _ _).mono ?_; rintro e w1 ⟨rfl, rfl⟩)
    go_ret
    exact ⟨rfl, by go_grown⟩
mutual
theorem ref_at : ∀ x : V, CmpAt 15 x
  | .mk k n s is fs => ref_step k n s is fs (ref_items is) (ref_fs fs)
theorem ref_items : ∀ l : List V, ∀ x ∈ l, CmpAt 15 x
  | [] => fun _ h => by cases h
  | y :: l => fun x h => (List.mem_cons.1 h).elim (fun e => e ▸ ref_at y) (fun h => ref_items l x h)
theorem ref_f : ∀ f : F, ∀ nm x, F.mk nm x = f → CmpAt 15 x
  | .mk _ y => fun nm x h => by
    have e : x = y := by injection h
    exact e ▸ ref_at y
theorem ref_fs : ∀ l : List F, ∀ nm x, F.mk nm x ∈ l → CmpAt 15 x
  | [] => fun _ _ h => by cases h
  | y :: l => fun nm x h => (List.mem_cons.1 h).elim (fun e => ref_f y nm x e) (fun h => ref_fs l nm x h)
end
end Go.Proofs.YtbhcfmdogdaodaaGreatDoor
namespace Go.Proofs.YtbhcfmdogdaodaaGreatDoor
open Go.RowKit
namespace Fd
open _root_.Go.Proofs.YtbhcfmdogdaodaaGreatDoor.Nt (RH RH.cell RH.box RH.lt RH.new RH.ext RH.fre RH.set RH.other)
open _root_.Go.Proofs.YtbhcfmdogdaodaaGreatDoor.Rw (wpList_load_agg wp_stored Kept Fresh)
set_option maxRecDepth 100000 in
set_option maxHeartbeats 16000000 in
theorem same_at (x y : V) (cx cy : List Value) (w : World) (hx : RepV w x cx) (hy : RepV w y cy) : Calls Tryz.prog 6 #[.agg cx.toArray, .agg cy.toArray] w fun e w' => e = .returned (.bool (decide (cmpV x y = 0))) ∧ Below w.heap.size w w' := by
  obtain ⟨k1, n1, s1, b1, b2, b3, b4, b5, b6, rfl⟩ := V5 hx
  obtain ⟨k2, n2, s2, e1, e2, e3, e4, e5, e6, rfl⟩ := V5 hy
  have HX := Lib.hid hx
  have HY := Lib.hid hy
  obtain ⟨z, hz⟩ : ∃ z, cmpV x y = z := ⟨_, rfl⟩
  have HZ := Lib.hid hz
  rw [hz]
  clear hx hy hz
  go_enter Tryz.func6, Tryz.ntmps6
  go_upto_region 1 with (fail)
  refine wp_vr2 fun W hbW hR1 hR2 => ?_
  obtain ⟨a0, a1, a2, a3, a4⟩ := va5 hR1
  obtain ⟨d0, d1, d2, d3, d4⟩ := va5 hR2
  have HBW := Lib.hid hbW
  clear hR1 hR2 hbW
  go_wp2_with fail
  refine (ref_at x y _ _ W (RepV.ext HBW.out HX.out) (RepV.ext HBW.out HY.out)).mono ?_
  rintro e w1 ⟨rfl, hb1⟩
  rw [HZ.out]
  have HB1 := Lib.hid (ext_trans HBW.out hb1)
  clear a0 a1 a2 a3 a4 d0 d1 d2 d3 d4 hb1
  go_wp2_with fail
  go_ret
  exact ⟨by by_cases h : z = 0 <;> simp [h], HB1.out⟩
end Fd
end Go.Proofs.YtbhcfmdogdaodaaGreatDoor
namespace Go.Proofs.YtbhcfmdogdaodaaGreatDoor
open Go.RowKit
namespace Fd
open _root_.Go.Proofs.YtbhcfmdogdaodaaGreatDoor.Nt (RH RH.cell RH.box RH.lt RH.new RH.ext RH.fre RH.set RH.other)
open _root_.Go.Proofs.YtbhcfmdogdaodaaGreatDoor.Rw (wp_stored)
set_option maxRecDepth 100000 in
set_option maxHeartbeats 16000000 in
theorem lawRds_at (text : ByteArray) (w : World) : Calls Tryz.prog 3 #[.string text] w fun e w' => e = .returned (.bool true) ∧ Below w.heap.size w w' := by
  obtain ⟨⟨y, yp, yf⟩, hr⟩ : ∃ r, readF text.data.toList = r := ⟨_, rfl⟩
  have HRT := Lib.hid hr
  have HSM : Hid (decide (cmpV y y = 0) = true) := Lib.hid (by rw [cmpV_self]; rfl)
  have HRA : Hid (∀ W : World, Calls Tryz.prog 4 #[.string text] W fun e w' => ∃ c, e = .returned (.tuple #[.agg c.toArray, .int .i64 yp, .int .i64 yf]) ∧ RepV w' y c ∧ Below W.heap.size W w') := Lib.hid (fun W => (read_at text W).mono (fun e w' h => by
    obtain ⟨c, h1, h2, h3, _⟩ := h
    rw [hr] at h1 h2
    exact ⟨c, h1, h2.now, h3⟩))
  have HRB : Hid (∀ W : World, Calls Tryz.prog 5 #[.string text] W fun e w' => ∃ c, e = .returned (.tuple #[.agg c.toArray, .int .i64 yp, .int .i64 yf]) ∧ RepV w' y c ∧ Below W.heap.size W w') := Lib.hid (fun W => (jread_at text W).mono (fun e w' h => by
    obtain ⟨c, h1, h2, h3, _⟩ := h
    rw [hr] at h1 h2
    exact ⟨c, h1, h2.now, h3⟩))
  clear hr HRT
  go_enter Tryz.func3, Tryz.ntmps3
  go_wp2_with fail
  refine (HRA.out w).mono ?_
  rintro e w1 ⟨c1, rfl, hr1, hb1⟩
  obtain ⟨k1, n1, s1, a1, m1, q1, aa1, mm1, qq1, rfl⟩ := V5 hr1
  have HV1 := Lib.hid hr1
  have HB1 := Lib.hid hb1
  clear hr1 hb1
  go_upto_region 2 with (refine wpList_store_row rfl _ _ _ rfl w1.heap.size (vAr k1 n1 s1 (.slice a1 m1 q1) (.slice aa1 mm1 qq1)) rfl rfl _ _ (RH.new _ _ _) (v_inf5 _ _ _ _ _) rfl (v_all5 _ _ _ _ _ _ _ _ _) ?_)
  refine wp_stored fun X1 hbs hRs => ?_
  replace HV1 := Lib.hid (RepV.ext hbs HV1.out)
  replace HB1 := Lib.hid (ext_trans HB1.out hbs)
  have HN1 := Lib.hid hRs
  clear hbs hRs
  generalize w1.heap.size = vb1 at *
  go_wp2_with fail
  refine (HRB.out X1).mono ?_
  rintro e w2 ⟨c2, rfl, hr2, hb2⟩
  obtain ⟨k2, n2, s2, a2, m2, q2, aa2, mm2, qq2, rfl⟩ := V5 hr2
  have HV2 := Lib.hid hr2
  have HB2 := Lib.hid (ext_trans HB1.out hb2)
  replace HV1 := Lib.hid (RepV.ext hb2 HV1.out)
  replace HN1 := Lib.hid (HN1.out.ext hb2)
  clear hr2 hb2
  go_upto_region 3 with (refine wpList_store_row rfl _ _ _ rfl w2.heap.size (vAr k2 n2 s2 (.slice a2 m2 q2) (.slice aa2 mm2 qq2)) rfl rfl _ _ (RH.new _ _ _) (v_inf5 _ _ _ _ _) rfl (v_all5 _ _ _ _ _ _ _ _ _) ?_)
  refine wp_stored fun X2 hbs hRs => ?_
  replace HV2 := Lib.hid (RepV.ext hbs HV2.out)
  replace HB2 := Lib.hid (ext_trans HB2.out hbs)
  replace HV1 := Lib.hid (RepV.ext hbs HV1.out)
  replace HN1 := Lib.hid (HN1.out.ext hbs)
  have HN2 := Lib.hid hRs
  clear hbs hRs
  generalize w2.heap.size = vb2 at *
  obtain ⟨e0, e1, e2, e3, e4⟩ := va5 HN1.out
  obtain ⟨d0, d1, d2, d3, d4⟩ := va5 HN2.out
  have hsm := same_at y y _ _ X2 HV1.out HV2.out
  rw [HSM.out] at hsm
  go_wp2_with fail
  refine hsm.mono ?_
  rintro e w3 ⟨rfl, hb3⟩
  have HB3 := Lib.hid (ext_trans HB2.out hb3)
  clear hsm hb3 e0 e1 e2 e3 e4 d0 d1 d2 d3 d4
  go_wp2
  go_ret
  exact ⟨by simp, HB3.out⟩
end Fd
end Go.Proofs.YtbhcfmdogdaodaaGreatDoor
