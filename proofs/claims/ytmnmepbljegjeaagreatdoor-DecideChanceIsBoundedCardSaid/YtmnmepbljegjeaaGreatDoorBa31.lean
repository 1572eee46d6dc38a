/- The closure that decided hands to walk; walk with it; decided. -/
import Derived.Test.YtmnmepbljegjeaaGreatDoorBa30
namespace Go.Proofs.YtmnmepbljegjeaaGreatDoor
open Go.RowKit
namespace Nm
/-- the first pair behind which a test is decided, or 0 -/
def decAt (dec : Nat → Nat → Bool) : Nat → Nat → Nat → List Int → Nat
  | _, _, _, [] => 0
  | u, v, k, p :: r => if dec (if p = 1 then u + 1 else u) (if p = -1 then v + 1 else v) = true then k + 1 else decAt dec (if p = 1 then u + 1 else u) (if p = -1 then v + 1 else v) (k + 1) r
theorem decAt_step (dec : Nat → Nat → Bool) (u v k : Nat) {l : List Int} (h : k < l.length) : decAt dec u v k (l.drop k) = if dec (if l[k] = 1 then u + 1 else u) (if l[k] = -1 then v + 1 else v) = true then k + 1 else decAt dec (if l[k] = 1 then u + 1 else u) (if l[k] = -1 then v + 1 else v) (k + 1) (l.drop (k + 1)) := by
  rw [List.drop_eq_getElem_cons h]; rfl
def ics (l : List Int) : List Value := l.map (Value.int .i64)
theorem ics_get {l : List Int} {i : Nat} (h : i < l.length) : (ics l)[i]? = some (.int .i64 l[i]) := by simp [ics, h]
/-- what the closure finds: the bettor's box, and the variable's -/
structure CE (w0 w : World) (bB bAt : Nat) (A : Array Value) (z : Int) : Prop where
  base : Below w0.heap.size w0 w
  box : Box w bB A
  at_ : Box w bAt #[.int .i64 z]
  fre : Fre w bAt
  le : w0.heap.size ≤ bAt
  ne : bB ≠ bAt
theorem CE.ext {w0 w w' : World} {bB bAt : Nat} {A : Array Value} {z : Int} (h : CE w0 w bB bAt A z) (hb : Below w.heap.size w w') : CE w0 w' bB bAt A z :=
  ⟨ext_trans h.base hb, h.box.ext hb, h.at_.ext hb, h.fre.ext h.at_ hb, h.le, h.ne⟩
theorem one_box {w : World} {b : Nat} {z y : Value} (h : Box w b #[z]) : Box (w.setCell ⟨b, 0, none⟩ y) b #[y] := by
  refine ⟨by simpa [World.setCell] using h.1, fun j => ?_⟩
  by_cases e : j = 0
  · subst e
    rw [World.cell?_setCell_same _ _ _ (h.2 0)]; rfl
  · rw [World.cell?_setCell_other _ _ _ _ (by intro e'; cases e'; exact e rfl), h.2 j]
    obtain ⟨k, rfl⟩ : ∃ k, j = k + 1 := ⟨j - 1, by omega⟩
    simp
theorem CE.set {w0 w : World} {bB bAt : Nat} {A : Array Value} {z : Int} (h : CE w0 w bB bAt A z) (y : Int) : CE w0 (w.setCell ⟨bAt, 0, none⟩ (.int .i64 y)) bB bAt A y := by
  refine ⟨h.base.setCell h.le _, ?_, one_box h.at_, fun j => by simp; exact h.fre j, h.le, h.ne⟩
  exact ⟨by simpa [World.setCell] using h.box.1, fun j => by rw [World.cell?_setCell_other _ _ _ _ (by intro e; cases e; exact h.ne rfl)]; exact h.box.2 j⟩
set_option maxHeartbeats 1000000 in
theorem clo_yes (d : Int) (bets : Nat) (q : Rat) (b : Bool) (a1 : Option Addr) (n1 c1 : Nat) (a2 : Option Addr) (n2 c2 : Nat) (w0 : World) (bB bAt : Nat) (pair : Int) (hp : pair ≠ 0) (up down : Nat) (hud : up + down ≤ 60) (w : World) (hB : Bett w0 d bets q b a1 n1 c1 a2 n2 c2) (hd : decB d bets q up down = true) (hce : CE w0 w bB bAt (betA d bets b a1 n1 c1 a2 n2 c2) 0) :
    Calls Tryz.prog 173 #[.int .i64 pair, .int .i64 (up : Int), .int .i64 (down : Int), .pointer (some ⟨bB, 0, none⟩), .pointer (some ⟨bAt, 0, none⟩)] w fun e w' => e = .returned (.bool false) ∧ CE w0 w' bB bAt (betA d bets b a1 n1 c1 a2 n2 c2) pair := by
  have HCE := Lib.hid hce
  have HBT := Lib.hid hB
  have y0 : w.cell? ⟨bB, 0, none⟩ = some (.int .i64 d) := hce.box.2 0
  have y1 : w.cell? ⟨bB, 1, none⟩ = some (.int .i64 bets) := hce.box.2 1
  have y2 : w.cell? ⟨bB, 2, none⟩ = some (.bool b) := hce.box.2 2
  have y3 : w.cell? ⟨bB, 3, none⟩ = some (.slice a1 n1 c1) := hce.box.2 3
  have y4 : w.cell? ⟨bB, 4, none⟩ = some (.slice a2 n2 c2) := hce.box.2 4
  clear hce hB
  have hz : (pair == 0) = false := by simpa using hp
  go_enter Tryz.func173, Tryz.ntmps173
  go_wp2_with fail
  refine (decides_at d bets up down q hud b a1 n1 c1 a2 n2 c2 w (HBT.out.ext HCE.out.base)).mono ?_
  rw [hd]
  rintro e w1 ⟨rfl, hb1⟩
  have HC1 := Lib.hid (HCE.out.ext hb1)
  have z0 : w1.cell? ⟨bAt, 0, none⟩ = some (.int .i64 0) := HC1.out.at_.2 0
  have f0 := HC1.out.fre 0
  have HC2 := Lib.hid (HC1.out.set pair)
  have z1 : (w1.setCell ⟨bAt, 0, none⟩ (.int .i64 pair)).cell? ⟨bAt, 0, none⟩ = some (.int .i64 pair) := HC2.out.at_.2 0
  clear y0 y1 y2 y3 y4 hb1 hd
  go_wp2
  go_ret
  exact ⟨rfl, HC2.out⟩
set_option maxHeartbeats 1000000 in
theorem clo_no (d : Int) (bets : Nat) (q : Rat) (b : Bool) (a1 : Option Addr) (n1 c1 : Nat) (a2 : Option Addr) (n2 c2 : Nat) (w0 : World) (bB bAt : Nat) (pair : Int) (up down : Nat) (hud : up + down ≤ 60) (w : World) (hB : Bett w0 d bets q b a1 n1 c1 a2 n2 c2) (hd : decB d bets q up down = false) (hce : CE w0 w bB bAt (betA d bets b a1 n1 c1 a2 n2 c2) 0) :
    Calls Tryz.prog 173 #[.int .i64 pair, .int .i64 (up : Int), .int .i64 (down : Int), .pointer (some ⟨bB, 0, none⟩), .pointer (some ⟨bAt, 0, none⟩)] w fun e w' => e = .returned (.bool true) ∧ CE w0 w' bB bAt (betA d bets b a1 n1 c1 a2 n2 c2) 0 := by
  have HCE := Lib.hid hce
  have HBT := Lib.hid hB
  have y0 : w.cell? ⟨bB, 0, none⟩ = some (.int .i64 d) := hce.box.2 0
  have y1 : w.cell? ⟨bB, 1, none⟩ = some (.int .i64 bets) := hce.box.2 1
  have y2 : w.cell? ⟨bB, 2, none⟩ = some (.bool b) := hce.box.2 2
  have y3 : w.cell? ⟨bB, 3, none⟩ = some (.slice a1 n1 c1) := hce.box.2 3
  have y4 : w.cell? ⟨bB, 4, none⟩ = some (.slice a2 n2 c2) := hce.box.2 4
  clear hce hB
  go_enter Tryz.func173, Tryz.ntmps173
  go_wp2_with fail
  refine (decides_at d bets up down q hud b a1 n1 c1 a2 n2 c2 w (HBT.out.ext HCE.out.base)).mono ?_
  rw [hd]
  rintro e w1 ⟨rfl, hb1⟩
  have HC1 := Lib.hid (HCE.out.ext hb1)
  have z0 : w1.cell? ⟨bAt, 0, none⟩ = some (.int .i64 0) := HC1.out.at_.2 0
  clear y0 y1 y2 y3 y4 hb1 hd
  go_wp2
  go_ret
  exact ⟨rfl, HC1.out⟩
set_option maxHeartbeats 4000000 in
theorem walk_decided (d : Int) (bets : Nat) (q : Rat) (b : Bool) (a1 : Option Addr) (n1 c1 : Nat) (a2 : Option Addr) (n2 c2 : Nat) (w0 : World) (bB bAt : Nat) (l : List Int) (a : Option Addr) (c : Nat) (w : World) (hB : Bett w0 d bets q b a1 n1 c1 a2 n2 c2) (hs : Sl w0 (.slice a l.length c) l.length (ics l)) (hl : l.length ≤ 60) (hce : CE w0 w bB bAt (betA d bets b a1 n1 c1 a2 n2 c2) 0) :
    Calls Tryz.prog 114 #[.slice a l.length c, .func (.func 173) #[] #[.pointer (some ⟨bB, 0, none⟩), .pointer (some ⟨bAt, 0, none⟩)]] w fun e w' => e = .returned (.tuple #[]) ∧ CE w0 w' bB bAt (betA d bets b a1 n1 c1 a2 n2 c2) (decAt (decB d bets q) 0 0 0 l) := by
  have HCE := Lib.hid hce
  have HBT := Lib.hid hB
  have HS := Lib.hid hs
  clear hce hB hs
  go_enter Tryz.func114, Tryz.ntmps114
  go_wp2
  go_loopw [4, 5, 6, 7, 10] (fun x y _ _ i wr => ∃ (k u v : Nat), k ≤ l.length ∧ u + v ≤ k ∧ i = .int .i64 k ∧ x = .int .i64 u ∧ y = .int .i64 v ∧ Hid (decAt (decB d bets q) 0 0 0 l = decAt (decB d bets q) u v k (l.drop k)) ∧ Hid (CE w0 wr bB bAt (betA d bets b a1 n1 c1 a2 n2 c2) 0)) (fun _ _ _ _ i _ => l.length - (intOf i).toNat)
  case atStart => exact ⟨0, 0, 0, by omega, by omega, rfl, rfl, rfl, rfl, HCE⟩
  case round =>
    obtain ⟨k, u, v, hk, huv, rfl, rfl, rfl, HK, HCE⟩ := hrel
    by_cases hlt : k < l.length
    · have HST : Hid (decAt (decB d bets q) 0 0 0 l = if decB d bets q (if l[k] = 1 then u + 1 else u) (if l[k] = -1 then v + 1 else v) = true then k + 1 else decAt (decB d bets q) (if l[k] = 1 then u + 1 else u) (if l[k] = -1 then v + 1 else v) (k + 1) (l.drop (k + 1))) := by
        have := HK.out; rw [decAt_step _ _ _ _ hlt] at this; exact this
      obtain ⟨p, o, rfl, hc⟩ := sl_addr (HS.out.ext HCE.out.base) (ics_get hlt)
      generalize l[k] = x at hc HST
      by_cases hx1 : x = 1
      · subst hx1
        rw [show (if (1 : Int) = 1 then u + 1 else u) = u + 1 by simp, show (if (1 : Int) = -1 then v + 1 else v) = v by simp] at HST
        by_cases hd : decB d bets q (u + 1) v = true
        · have HF : Hid (decAt (decB d bets q) 0 0 0 l = k + 1) := by have := HST.out; rw [if_pos hd] at this; exact this
          go_wp2_with fail
          refine (clo_yes d bets q b a1 n1 c1 a2 n2 c2 w0 bB bAt ((k : Int) + 1) (by omega) (u + 1) v (by omega) wr HBT.out hd HCE.out).mono ?_
          rintro e w2 ⟨rfl, hce⟩
          have HC2 := Lib.hid hce
          clear hce
          go_wp2
          refine bodyPost_ret (v := .tuple #[]) (by simp [results, Tryz.results114, go_sem]) rfl ⟨rfl, ?_⟩
          rw [HF.out]; exact HC2.out
        · have hd' : decB d bets q (u + 1) v = false := by simpa using hd
          have HN : Hid (decAt (decB d bets q) 0 0 0 l = decAt (decB d bets q) (u + 1) v (k + 1) (l.drop (k + 1))) := by have := HST.out; rw [if_neg hd] at this; exact this
          go_wp2_with fail
          refine (clo_no d bets q b a1 n1 c1 a2 n2 c2 w0 bB bAt ((k : Int) + 1) (u + 1) v (by omega) wr HBT.out hd' HCE.out).mono ?_
          rintro e w2 ⟨rfl, hce⟩
          have HC2 := Lib.hid hce
          clear hce
          go_wp2
          go_roundw
          case rel => exact ⟨k + 1, (u + 1), v, by omega, by omega, by go_num, by go_num, by go_num, HN, HC2⟩
          case measure => simp [intOf]; omega
      by_cases hx2 : x = -1
      · subst hx2
        rw [show (if (-1 : Int) = 1 then u + 1 else u) = u by simp, show (if (-1 : Int) = -1 then v + 1 else v) = v + 1 by simp] at HST
        by_cases hd : decB d bets q u (v + 1) = true
        · have HF : Hid (decAt (decB d bets q) 0 0 0 l = k + 1) := by have := HST.out; rw [if_pos hd] at this; exact this
          go_wp2_with fail
          refine (clo_yes d bets q b a1 n1 c1 a2 n2 c2 w0 bB bAt ((k : Int) + 1) (by omega) u (v + 1) (by omega) wr HBT.out hd HCE.out).mono ?_
          rintro e w2 ⟨rfl, hce⟩
          have HC2 := Lib.hid hce
          clear hce
          go_wp2
          refine bodyPost_ret (v := .tuple #[]) (by simp [results, Tryz.results114, go_sem]) rfl ⟨rfl, ?_⟩
          rw [HF.out]; exact HC2.out
        · have hd' : decB d bets q u (v + 1) = false := by simpa using hd
          have HN : Hid (decAt (decB d bets q) 0 0 0 l = decAt (decB d bets q) u (v + 1) (k + 1) (l.drop (k + 1))) := by have := HST.out; rw [if_neg hd] at this; exact this
          go_wp2_with fail
          refine (clo_no d bets q b a1 n1 c1 a2 n2 c2 w0 bB bAt ((k : Int) + 1) u (v + 1) (by omega) wr HBT.out hd' HCE.out).mono ?_
          rintro e w2 ⟨rfl, hce⟩
          have HC2 := Lib.hid hce
          clear hce
          go_wp2
          go_roundw
          case rel => exact ⟨k + 1, u, (v + 1), by omega, by omega, by go_num, by go_num, by go_num, HN, HC2⟩
          case measure => simp [intOf]; omega
      · rw [if_neg hx1, if_neg hx2] at HST
        have hb1 : (x == 1) = false := by simpa using hx1
        have hb2 : (x == -1) = false := by simpa using hx2
        by_cases hd : decB d bets q u v = true
        · have HF : Hid (decAt (decB d bets q) 0 0 0 l = k + 1) := by have := HST.out; rw [if_pos hd] at this; exact this
          go_wp2_with fail
          refine (clo_yes d bets q b a1 n1 c1 a2 n2 c2 w0 bB bAt ((k : Int) + 1) (by omega) u v (by omega) wr HBT.out hd HCE.out).mono ?_
          rintro e w2 ⟨rfl, hce⟩
          have HC2 := Lib.hid hce
          clear hce
          go_wp2
          refine bodyPost_ret (v := .tuple #[]) (by simp [results, Tryz.results114, go_sem]) rfl ⟨rfl, ?_⟩
          rw [HF.out]; exact HC2.out
        · have hd' : decB d bets q u v = false := by simpa using hd
          have HN : Hid (decAt (decB d bets q) 0 0 0 l = decAt (decB d bets q) u v (k + 1) (l.drop (k + 1))) := by have := HST.out; rw [if_neg hd] at this; exact this
          go_wp2_with fail
          refine (clo_no d bets q b a1 n1 c1 a2 n2 c2 w0 bB bAt ((k : Int) + 1) u v (by omega) wr HBT.out hd' HCE.out).mono ?_
          rintro e w2 ⟨rfl, hce⟩
          have HC2 := Lib.hid hce
          clear hce
          go_wp2
          go_roundw
          case rel => exact ⟨k + 1, u, v, by omega, by omega, by go_num, by go_num, by go_num, HN, HC2⟩
          case measure => simp [intOf]; omega
    · have HF : Hid (decAt (decB d bets q) 0 0 0 l = 0) := by
        have := HK.out; rw [List.drop_eq_nil_of_le (by omega)] at this; exact this
      go_wp2
      go_end0
      refine ⟨rfl, ?_⟩
      rw [HF.out]; exact HCE.out
end Nm
end Go.Proofs.YtmnmepbljegjeaaGreatDoor
