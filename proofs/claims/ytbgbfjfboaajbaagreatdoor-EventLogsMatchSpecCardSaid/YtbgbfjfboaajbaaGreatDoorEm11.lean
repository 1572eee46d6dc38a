/- event.unite: sorted, each once; or a clash. ReadLog of logs: what it leaves: a log's lines. Printed by gen_logr.py. -/
import Derived.Test.YtbgbfjfboaajbaaGreatDoorEm09
import Derived.Test.YtbgbfjfboaajbaaGreatDoorEm10
import Derived.Test.YtbgbfjfboaajbaaGreatDoorEm04
import Derived.Outline
import Derived.Test.YtbgbfjfboaajbaaGreatDoorEm05
namespace Go.Proofs.YtbgbfjfboaajbaaGreatDoor
open Go.RowKit Go.Sort Go.Lib
theorem flatK_get (U : List Ev) (t : Nat) (ht : t < U.length * 8) : (U.flatMap evL)[t]? = some (flatK evL 8 U.toArray)[t]! := by
  rw [get_flatK _ _ _ _ (by simpa using ht)]
  have h1 : t / 8 < U.length := by omega
  have h2 : U[t / 8]? = some U.toArray[t / 8]! := by rw [getElem!_pos U.toArray _ (by simpa using h1)]; simp [h1]
  have h3 : t % 8 < (evL U.toArray[t / 8]!).length := by rw [evL_len]; omega
  have := flat_get evL_len U (t / 8) _ h2 (t % 8) _ (List.getElem?_eq_getElem h3)
  rw [show t / 8 * 8 + t % 8 = t by omega] at this
  rw [this, getElem!_pos (evL U.toArray[t / 8]!) _ h3]
theorem row_of_own {w : World} {base : Nat} {v : Value} {U : List Ev} (h : w.ownsRow base 31 8 v U.length (U.flatMap evL)) :
    (v = .slice none 0 0 ∧ U = []) ∨ ∃ g cap, v = .slice (some ⟨g, 0, none⟩) U.length cap ∧ base ≤ g ∧ U.length ≤ cap ∧ cap ≤ maxLen ∧ RowK evL 8 w g 0 U.toArray := by
  obtain ⟨h1, ⟨rfl, h2⟩ | ⟨g, cap, cur, rfl, hb, hg, hn, hm, hs, ht⟩⟩ := h
  · exact .inl ⟨rfl, List.length_eq_zero_iff.1 h2⟩
  · refine .inr ⟨g, cap, rfl, hb, hn, hm, evL_len, evL_one, fun j hj => ?_, (Array.getElem?_eq_some_iff.1 hg).1⟩
    have hj' : j < U.length * 8 := by simpa using hj
    have h3 := flatK_get U j hj'
    rw [← ht, List.getElem?_take_of_lt hj'] at h3
    constructor
    · simp only [World.cell?, hg, Nat.zero_add]
      simpa using h3
    · simp [World.frozen?, hg]
set_option maxHeartbeats 2000000 in
theorem stable_nil (g : Nat) (w : World) : Calls Tryz.prog 62 #[.slice none 0 0, .int .i64 0, .func (.func g) #[] #[]] w fun e w' => e = .returned (.tuple #[]) ∧ w = w' := by
  go_enter Tryz.func62, Tryz.ntmps62
  go_wp2
  go_rounds 1
  go_rounds 1
  go_rounds 1
  go_end0
  exact ⟨rfl, rfl⟩
set_option maxHeartbeats 2000000 in
theorem sort_nil (g : Nat) (w : World) : Calls Tryz.prog 43 #[.slice none 0 0, .func (.func g) #[] #[]] w fun e w' => e = .returned (.tuple #[]) ∧ w = w' := by
  go_enter Tryz.func43, Tryz.ntmps43
  go_wp2_with (go_at_call 62; refine (stable_nil _ _).mono ?_; rintro e w' ⟨rfl, rfl⟩)
  go_end0
  exact ⟨rfl, rfl⟩
set_option maxHeartbeats 2000000 in
theorem compact_nil (w : World) : Calls Tryz.prog 44 #[.slice none 0 0] w fun e w' => e = .returned (.slice none 0 0) ∧ w = w' := by
  go_enter Tryz.func44, Tryz.ntmps44
  go_wp2
  go_ret
  exact ⟨rfl, rfl⟩
def zev : Array Value := #[.string ⟨#[]⟩, .int .i64 0, .int .i64 0, .int .i64 0, .string ⟨#[]⟩, .string ⟨#[]⟩, .int .i64 0, .int .i64 0]
theorem compact_ev (blk cap : Nat) (d : Array Ev) (w : World) (R : RowK evL 8 w blk 0 d) (hsz : d.size < 4611686018427387904) (hcap : d.size ≤ cap) (hcm : cap ≤ maxLen) :
    Calls Tryz.prog 44 #[.slice (some ⟨blk, 0, none⟩) d.size cap] w (St.CptPost evL blk 0 cap (compactUpTo d d.size) w) :=
  St.compact_at 8 St.lay Tryz.func44 evL eql_ev neq_ev guard_ev zev rfl
    (by intro v hv; simp only [zev, List.mem_cons, List.not_mem_nil, or_false] at hv; rcases hv with rfl | rfl | rfl | rfl | rfl | rfl | rfl | rfl <;> rfl) (by omega) (fun w => by kernel_rfl) blk 0 cap d w R hsz hcap hcm
/-- What unite leaves. -/
def UnitePost (B : Nat) (U : List Ev) (w : World) (e : Ending) (w' : World) : Prop :=
  (∃ (C : List Ev) (a : Option Addr) (cap : Nat), e = .returned (.tuple #[.slice a C.length cap, .bool true]) ∧ Sl w' (.slice a C.length cap) C.length (C.flatMap evL) ∧ Asc C ∧ (∀ x, x ∈ C ↔ x ∈ U) ∧ Below B w w') ∨
  (e = .returned (.tuple #[.slice none 0 0, .bool false]) ∧ ¬ NoClash U ∧ Below B w w')
abbrev S88 (W : World) (b1 o1 : Nat) (e1 : Ev) (b2 o2 : Nat) (e2 : Ev) (w' : World) : Prop :=
  Below W.heap.size W w' ∧ C8 w' b1 o1 e1 ∧ C8 w' b2 o2 e2
theorem S88.start {W : World} {b1 o1 : Nat} {e1 : Ev} {b2 o2 : Nat} {e2 : Ev} (h1 : C8 W b1 o1 e1) (h2 : C8 W b2 o2 e2) : S88 W b1 o1 e1 b2 o2 e2 W.drew := ⟨(Below.refl _ _).drew, h1, h2⟩
theorem S88.ext {W w1 w2 : World} {b1 o1 : Nat} {e1 : Ev} {b2 o2 : Nat} {e2 : Ev} (hb : Below w1.heap.size w1 w2) (h : S88 W b1 o1 e1 b2 o2 e2 w1) : S88 W b1 o1 e1 b2 o2 e2 w2 :=
  ⟨ext_trans h.1 hb, C8.ext hb h.2.1, C8.ext hb h.2.2⟩
set_option maxRecDepth 100000 in
set_option maxHeartbeats 4000000 in
theorem unite_at (B : Nat) (U : List Ev) (v : Value) (w : World) (hB : B ≤ w.heap.size) (hown : w.ownsRow B 31 8 v U.length (U.flatMap evL)) (hl : U.length < 1152921504606846976) :
    Calls Tryz.prog 24 #[v] w (UnitePost B U w) := by
  rcases row_of_own hown with ⟨rfl, rfl⟩ | ⟨g, cap, rfl, hg, hcap, hcm, R⟩
  · clear hown
    have HP : Hid (UnitePost B [] w (.returned (.tuple #[.slice none 0 0, .bool true])) w) := .inl ⟨[], none, 0, rfl, Sl.nil w, List.Pairwise.nil, fun x => Iff.rfl, Below.refl _ _⟩
    go_enter Tryz.func24, Tryz.ntmps24
    go_wp2_with (first | (go_at_call 43; refine (sort_nil _ _).mono ?_; rintro e w' ⟨rfl, rfl⟩) | (go_at_call 44; refine (compact_nil _).mono ?_; rintro e w' ⟨rfl, rfl⟩))
    go_rounds 1
    go_ret2
    exact HP.out
  · clear hown
    have hs := St.sortStable_at evL ordE ordE_swo 17 #[] g 0 cap U.toArray w (fun _ _ => by rfl) (order_lays g 0 _ w) R (by simpa using hl)
    rw [show U.toArray.size = U.length by simp] at hs
    have HR : Aside _ := R
    have HCM := Lib.hid hcm
    clear R hcm
    go_enter Tryz.func24, Tryz.ntmps24
    go_wp2_with fail
    refine hs.mono ?_
    rintro e w1 ⟨rfl, d', hp, hso, hS⟩
    clear hs
    have hds : d'.size = U.length := by have := hp.1; simpa using this
    have hR1 : RowK evL 8 w1 g 0 d' := ⟨evL_len, evL_one, hS.holds HR.out.hblk HR.out.hH (by rw [hds]; simp), hS.lt HR.out.hblk⟩
    have hc := compact_ev g cap d' w1 hR1 (by omega) (by omega) HCM.out
    rw [hds] at hc
    have HB1 : Hid (Below B w w1) := St.SWK.below hS hg HR.out.hblk
    have hcs := cpt_sorted (U := U) (d' := d') (by simpa using hp) (by simpa using hso)
    rw [hds] at hcs
    have HCS := Lib.hid hcs
    clear hp hso hS hR1 hcs hds HR
    generalize compactUpTo d' U.length = C at hc HCS
    go_wp2_with fail
    refine hc.mono ?_
    rintro e w2 ⟨rfl, s2, hb2⟩
    have HB2 : Hid (Below B w w2) := HB1.out.trans (hb2 B hg)
    have hB2 : B ≤ w2.heap.size := Nat.le_trans hB HB2.out.size
    have hlen := s2.len_le
    clear hc hb2 HB1
    go_wp2
    go_loopw [4] (fun i wr => ∃ k : Nat, k ≤ C.length ∧ i = .int .i64 ((k : Int) + 1) ∧ Hid (∀ j, j < k → ∀ x y, C[j]? = some x → C[j + 1]? = some y → ordE x y ≠ 0) ∧ Below w2.heap.size w2 wr) (fun i _ => C.length + 1 - (intOf i).toNat)
    case atStart => exact ⟨0, by omega, rfl, fun j hj => by omega, Below.refl _ _⟩
    case round =>
      obtain ⟨k, hk, rfl, HK, hb⟩ := hrel
      by_cases hlt : k + 1 < C.length
      · have hg1 := List.getElem?_eq_getElem hlt
        have hg0 := List.getElem?_eq_getElem (show k < C.length by omega)
        generalize C[k + 1] = y at hg1
        generalize C[k] = x at hg0
        obtain ⟨b, o, ha, e0, e1, e2, e3, e4, e5, e6, e7⟩ := ev_cells (s2.ext hb) hg0
        obtain ⟨b', o', ha', f0, f1, f2, f3, f4, f5, f6, f7⟩ := ev_cells (s2.ext hb) hg1
        cases ha
        cases ha'
        have HG0 := Lib.hid hg0
        have HG1 := Lib.hid hg1
        clear hg0 hg1
        simp only [Nat.zero_add] at e0 e1 e2 e3 e4 e5 e6 e7 f0 f1 f2 f3 f4 f5 f6 f7
        have hj0 : (0 : Int) ≤ (k : Int) := Int.natCast_nonneg _
        have hj1 : (k : Int) < (C.length : Int) := by omega
        have hp0 : (0 : Int) ≤ (k : Int) + 1 := by omega
        have hp1 : (k : Int) + 1 < (C.length : Int) := by omega
        have hpt : ((k : Int) + 1).toNat = k + 1 := by omega
        have hwj : IntKind.i64.wrap (k : Int) = (k : Int) := IntWalk.i64_in _ (by omega)
        go_wp2_with fail
        go_region_held3 (S88 wr g (k * 8) x g ((k + 1) * 8) y) (first | exact S88.start ⟨e0, e1, e2, e3, e4, e5, e6, e7⟩ ⟨f0, f1, f2, f3, f4, f5, f6, f7⟩ | exact S88.ext (by with_reducible assumption) (by with_reducible assumption) | assumption) (first | (go_at_call 17; refine (event_order x y _).mono ?_; rintro e w3 ⟨rfl, hb3⟩))
        have hb4 := ext_trans hb.drew hb3
        clear hwj e0 e1 e2 e3 e4 e5 e6 e7 f0 f1 f2 f3 f4 f5 f6 f7 hb3
        by_cases ho : ordE x y = 0
        · have hoe : (ordE x y == 0) = true := by simp [ho]
          have HP : Hid (UnitePost B U w (.returned (.tuple #[.slice none 0 0, .bool false])) w3) := .inr ⟨rfl, clash_of HCS.out.1 HCS.out.2 HG0.out HG1.out ho, HB2.out.trans (hb4.mono hB2)⟩
          clear ho
          go_wp2
          go_ret2
          exact HP.out
        · have hoe : (ordE x y == 0) = false := by simp [ho]
          have HK2 : Hid (∀ j, j < k + 1 → ∀ x y, C[j]? = some x → C[j + 1]? = some y → ordE x y ≠ 0) := by
            intro j hj p q hpp hqq
            by_cases e : j = k
            · subst e
              rw [HG0.out] at hpp; rw [HG1.out] at hqq
              cases hpp; cases hqq; exact ho
            · exact HK.out j (by omega) p q hpp hqq
          clear ho
          go_wp2
          go_roundw
          case rel => exact ⟨k + 1, by omega, by go_num, HK2, hb4⟩
          case measure => simp [intOf]; omega
      · have HP : Hid (UnitePost B U w (.returned (.tuple #[.slice (some ⟨g, 0, none⟩) C.length cap, .bool true])) wr) := by
          refine .inl ⟨C, _, _, rfl, s2.ext hb, asc_of HCS.out.2 (fun j x y hx hy => ?_), HCS.out.1, HB2.out.trans (hb.mono hB2)⟩
          have := (List.getElem?_eq_some_iff.1 hy).1
          exact HK.out j (by omega) x y hx hy
        have hge : ¬ (k : Int) + 1 < (C.length : Int) := by omega
        go_wp2
        go_ret2
        exact HP.out
end Go.Proofs.YtbgbfjfboaajbaaGreatDoor
namespace Go.Proofs.YtbgbfjfboaajbaaGreatDoor
open Go.RowKit
namespace Tx
theorem evt_info : (Tryz.prog.info? 31).map (fun i => (i.zero, i.size, i.bytes)) = some (some (.agg #[.string ⟨#[]⟩, .int .i64 0, .int .i64 0, .int .i64 0, .string ⟨#[]⟩, .string ⟨#[]⟩, .int .i64 0, .int .i64 0]), 8, 88) := by kernel_rfl
def szOf : Value → Nat
 | .string s => s.size
 | _ => 0
/-- what ReadLog leaves -/
def RdG (t : List UInt8) (w : World) (e : Ending) (w' : World) : Prop := ∃ (x : List Ev) (a : Option Addr) (c : Nat) (i f : Int), e = .returned (.tuple #[.slice a x.length c, .int .i64 i, .int .i64 f]) ∧ Sl w' (.slice a x.length c) x.length (x.flatMap evL) ∧ (∀ e ∈ x, e.ok) ∧ LogR t x i f ∧ Below w.heap.size w w'
theorem rdG_bad {t : List UInt8} {w w' : World} {i f : Int} (h : LogR t [] i f) (hb : Below w.heap.size w w') : RdG t w (.returned (.tuple #[.slice none 0 0, .int .i64 i, .int .i64 f])) w' :=
 ⟨[], none, 0, i, f, rfl, Sl.nil _, (fun m hm => by cases hm), h, hb⟩
theorem logR_long {t : List UInt8} (h : 3000000 < t.length) : LogR t [] 0 2 := by unfold LogR; rw [if_pos h]; exact ⟨rfl, rfl, rfl⟩
theorem logR_line {t : List UInt8} {i : Nat} (h0 : ¬ 3000000 < t.length) (h : rdEs 1 (cutL 10 t) = .inr i) : LogR t [] (i : Int) 10 := by unfold LogR; rw [if_neg h0, h]; exact ⟨rfl, rfl, rfl⟩
theorem logR_all {t : List UInt8} {l x : List Ev} {f : Int} (h0 : ¬ 3000000 < t.length) (h : rdEs 1 (cutL 10 t) = .inl l) (k : LogL l x f) : LogR t x 0 f := by unfold LogR; rw [if_neg h0, h]; exact ⟨rfl, k⟩
theorem logL_fault {l : List Ev} (h : faultsE l ≠ 0) : LogL l [] (faultsE l) := by unfold LogL; rw [if_pos h]; exact ⟨rfl, rfl⟩
theorem logL_clash {l : List Ev} (h : faultsE l = 0) (k : ¬ NoClash l) : LogL l [] 13 := by unfold LogL; rw [if_neg (by simp [h])]; exact .inl ⟨k, rfl, rfl⟩
theorem logL_yes {l C : List Ev} (h : faultsE l = 0) (h1 : Asc C) (h2 : ∀ e, e ∈ C ↔ e ∈ l) (h3 : checkL C = 0) : LogL l C 0 := by unfold LogL; rw [if_neg (by simp [h])]; exact .inr ⟨C, h1, h2, .inl ⟨h3, rfl, rfl⟩⟩
theorem logL_no {l C : List Ev} (h : faultsE l = 0) (h1 : Asc C) (h2 : ∀ e, e ∈ C ↔ e ∈ l) (h3 : checkL C ≠ 0) : LogL l [] (checkL C) := by unfold LogL; rw [if_neg (by simp [h])]; exact .inr ⟨C, h1, h2, .inr ⟨h3, rfl, rfl⟩⟩
theorem hem_of {s : ByteArray} (h : s.size ≠ 0) : (s.toList == []) = false := by
 have hl : s.data.toList.length = s.size := Array.length_toList
 rw [ByteArray.toList_eq]
 cases hq : s.data.toList with
 | nil => rw [hq] at hl; simp at hl; omega
 | cons _ _ => rfl
theorem nil_of {s : ByteArray} (h : s.size = 0) : s.data.toList = [] := List.eq_nil_of_length_eq_zero (by rw [show s.data.toList.length = s.size from Array.length_toList]; exact h)
theorem event_cells {w : World} {a : Option Addr} {c k : Nat} {l : List Ev} {e : Ev} (h : Sl w (.slice a l.length c) l.length (l.flatMap evL)) (hk : l[k]? = some e) : ∃ b o, a = some ⟨b, o, none⟩ ∧ w.cell? ⟨b, o + k * 8, none⟩ = some (.string e.shard) ∧ w.cell? ⟨b, o + k * 8 + 1, none⟩ = some (.int .i64 e.number) ∧ w.cell? ⟨b, o + k * 8 + 2, none⟩ = some (.int .i64 e.kind) ∧ w.cell? ⟨b, o + k * 8 + 3, none⟩ = some (.int .i64 e.time) ∧ w.cell? ⟨b, o + k * 8 + 4, none⟩ = some (.string e.key) ∧ w.cell? ⟨b, o + k * 8 + 5, none⟩ = some (.string e.name) ∧ w.cell? ⟨b, o + k * 8 + 6, none⟩ = some (.int .i64 e.arm) ∧ w.cell? ⟨b, o + k * 8 + 7, none⟩ = some (.int .i64 e.n) := by
 obtain ⟨b, o, rfl, hcs⟩ := h.elem evL_len (by omega : 0 < 8) hk
 exact ⟨b, o, rfl, hcs 0 _ rfl, hcs 1 _ rfl, hcs 2 _ rfl, hcs 3 _ rfl, hcs 4 _ rfl, hcs 5 _ rfl, hcs 6 _ rfl, hcs 7 _ rfl⟩
end Tx
end Go.Proofs.YtbgbfjfboaajbaaGreatDoor
