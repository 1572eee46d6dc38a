/- decided and readTest of package decide. readTest of package decide. -/
import Derived.Test.YtmnmepbljegjeaaGreatDoorBa31
import Derived.Test.YtmnmepbljegjeaaGreatDoorBa32
namespace Go.Proofs.YtmnmepbljegjeaaGreatDoor
open Go.RowKit
theorem S2R.setN {W w1 : World} {B b1 : Nat} {A1 : Array Value} {b2 : Nat} {A2 : Array Value} {p : Addr} {v : Value} (h : S2R W B b1 A1 b2 A2 w1) (hp : B ≤ p.block) (h1 : b1 ≠ p.block) (h2 : b2 ≠ p.block) : S2R W B b1 A1 b2 A2 (w1.setCell p v) :=
  ⟨h.1.setCell hp _, fun j => by rw [World.cell?_setCell_other _ _ _ _ (fun e => h1 (by rw [e]))]; exact h.2.1 j, fun j => by rw [World.cell?_setCell_other _ _ _ _ (fun e => h2 (by rw [e]))]; exact h.2.2 j⟩
theorem box_cell {w : World} {b : Nat} {A : Array Value} (h : Box w b A) {j : Nat} (hj : j < A.size) (u : Value) : Box (w.setCell ⟨b, j, none⟩ u) b (A.setIfInBounds j u) := by
  refine ⟨by simpa [World.setCell] using h.1, fun i => ?_⟩
  by_cases e : i = j
  · subst e
    rw [World.cell?_setCell_same _ _ _ ((h.2 i).trans (Array.getElem?_eq_getElem hj))]
    simp [hj]
  · rw [World.cell?_setCell_other _ _ _ _ (by intro e'; cases e'; exact e rfl), h.2 i, Array.getElem?_setIfInBounds_ne (fun e' => e e'.symm)]
theorem box_other {w : World} {b b' : Nat} {A : Array Value} (h : Box w b A) (hne : b ≠ b') (j : Nat) (u : Value) : Box (w.setCell ⟨b', j, none⟩ u) b A :=
  ⟨by simpa [World.setCell] using h.1, fun i => by rw [World.cell?_setCell_other _ _ _ _ (by intro e; cases e; exact hne rfl)]; exact h.2 i⟩
namespace Nm
set_option maxHeartbeats 2000000 in
theorem decided_at (d : Int) (bets : Nat) (q : Rat) (b : Bool) (a1 : Option Addr) (n1 c1 : Nat) (a2 : Option Addr) (n2 c2 : Nat) (l : List Int) (a : Option Addr) (c : Nat) (w : World) (hB : Bett w d bets q b a1 n1 c1 a2 n2 c2) (hs : Sl w (.slice a l.length c) l.length (ics l)) (hl : l.length ≤ 60) :
    Calls Tryz.prog 117 #[.agg (betA d bets b a1 n1 c1 a2 n2 c2), .slice a l.length c] w (FPost w (decAt (decB d bets q) 0 0 0 l)) := by
  have HBT := Lib.hid hB
  have HS := Lib.hid hs
  clear hB hs
  go_enter Tryz.func117, Tryz.ntmps117
  go_upto_region 2 with (fail)
  refine wp_box2r fun W hsz hbW hA hC hF => ?_
  have HCE : Hid (CE w W w.heap.size (w.heap.size + 1) (betA d bets b a1 n1 c1 a2 n2 c2) 0) := ⟨hbW, hA, hC, hF, Nat.le_succ _, by omega⟩
  clear hsz hA hC hF hbW
  go_wp2_with fail
  refine (walk_decided d bets q b a1 n1 c1 a2 n2 c2 w _ _ l a c W HBT.out HS.out hl HCE.out).mono ?_
  rintro e w1 ⟨rfl, hce⟩
  have z0 : w1.cell? ⟨w.heap.size + 1, 0, none⟩ = some (.int .i64 (decAt (decB d bets q) 0 0 0 l : Nat)) := hce.at_.2 0
  have hb1 := hce.base
  clear hce
  go_wp2
  go_ret
  exact ⟨rfl, hb1⟩
end Nm
end Go.Proofs.YtmnmepbljegjeaaGreatDoor
namespace Go.Proofs.YtmnmepbljegjeaaGreatDoor
open Go.RowKit
namespace Nm
def zeroB : Array Value := betA 0 0 false none 0 0 none 0 0
theorem zeroB_word : ∀ (j : Nat) (u : Value), (betA 0 0 false none 0 0 none 0 0)[j]? = some u → isWord u = false := by
  intro j u h
  match j with
  | 0 => cases h; rfl
  | 1 => cases h; rfl
  | 2 => cases h; rfl
  | 3 => cases h; rfl
  | 4 => cases h; rfl
  | n + 5 => simp at h
theorem five {w : World} {b : Nat} {x0 x1 x2 x3 x4 : Value} (u0 u1 u2 u3 u4 : Value) (h : Box w b #[x0, x1, x2, x3, x4]) : Box (((((w.setCell ⟨b, 0, none⟩ u0).setCell ⟨b, 1, none⟩ u1).setCell ⟨b, 2, none⟩ u2).setCell ⟨b, 3, none⟩ u3).setCell ⟨b, 4, none⟩ u4) b #[u0, u1, u2, u3, u4] :=
  box_cell (box_cell (box_cell (box_cell (box_cell h (j := 0) (by simp) u0) (j := 1) (by simp) u1) (j := 2) (by simp) u2) (j := 3) (by simp) u3) (j := 4) (by simp) u4
theorem five_other {w : World} {b : Nat} (u0 u1 u2 u3 u4 : Value) : ∀ p : Addr, p.block ≠ b → (((((w.setCell ⟨b, 0, none⟩ u0).setCell ⟨b, 1, none⟩ u1).setCell ⟨b, 2, none⟩ u2).setCell ⟨b, 3, none⟩ u3).setCell ⟨b, 4, none⟩ u4).cell? p = w.cell? p := by
  intro p hp
  have h : ∀ (w : World) (j : Nat) (u : Value), (w.setCell ⟨b, j, none⟩ u).cell? p = w.cell? p := fun w j u => World.cell?_setCell_other _ _ _ _ (fun e => hp (by rw [← e]))
  rw [h, h, h, h, h]
theorem res5 {w0 w : World} {b : Nat} (u0 u1 u2 u3 u4 : Value) (hC : Box w b (betA 0 0 false none 0 0 none 0 0)) (hb : Below w0.heap.size w0 w) (hle : w0.heap.size ≤ b) :
    let w' := (((((w.setCell ⟨b, 0, none⟩ u0).setCell ⟨b, 1, none⟩ u1).setCell ⟨b, 2, none⟩ u2).setCell ⟨b, 3, none⟩ u3).setCell ⟨b, 4, none⟩ u4)
    Below w0.heap.size w0 w' ∧ w'.cell? ⟨b, 0, none⟩ = some u0 ∧ w'.cell? ⟨b, 1, none⟩ = some u1 ∧ w'.cell? ⟨b, 2, none⟩ = some u2 ∧ w'.cell? ⟨b, 3, none⟩ = some u3 ∧ w'.cell? ⟨b, 4, none⟩ = some u4 := by
  have h := five u0 u1 u2 u3 u4 hC
  exact ⟨((((hb.setCell hle _).setCell hle _).setCell hle _).setCell hle _).setCell hle _, h.2 0, h.2 1, h.2 2, h.2 3, h.2 4⟩
theorem XR.keep5 {w : World} {b : Nat} {v : Value} {q : Rat} (u0 u1 u2 u3 u4 : Value) (h : XR w v q) (hC : Box w b (betA 0 0 false none 0 0 none 0 0)) : XR (((((w.setCell ⟨b, 0, none⟩ u0).setCell ⟨b, 1, none⟩ u1).setCell ⟨b, 2, none⟩ u2).setCell ⟨b, 3, none⟩ u3).setCell ⟨b, 4, none⟩ u4) v q := by
  obtain ⟨v1, v2, h0, h1, h2⟩ := h
  exact ⟨v1, v2, h0, h1.keepBox hC zeroB_word (five_other _ _ _ _ _), h2.keepBox hC zeroB_word (five_other _ _ _ _ _)⟩
def testF (d k : Int) (n m : ByteArray) : Int := if ¬ (1 ≤ d ∧ d ≤ 3) then 4 else if ¬ (1 ≤ k ∧ k ≤ 5) then 1 else missF n m
def TestPost (w : World) (d k : Int) (n m : ByteArray) (e : Ending) (w' : World) : Prop := ∃ dd kk b a1 n1 c1 a2 n2 c2, e = .returned (.tuple #[.agg (betA dd kk b a1 n1 c1 a2 n2 c2), .int .i64 (testF d k n m)]) ∧ (testF d k n m = 0 → dd = d ∧ kk = (k.toNat : Int) ∧ Bett w' d k.toNat (rQ n m)⁻¹ b a1 n1 c1 a2 n2 c2) ∧ Below w.heap.size w w'
theorem missF_ok {n m : ByteArray} (h : missF n m = 0) : rF n m = 0 ∧ 0 < (rQ n m).num := by
  unfold missF at h
  by_cases h1 : rF n m = 0
  · rw [if_neg (by simp [h1])] at h
    refine ⟨h1, ?_⟩
    by_cases h2 : okM (rQ n m) = false
    · rw [if_pos h2] at h; cases h
    · have h3 : okM (rQ n m) = true := by simpa using h2
      unfold okM at h3
      rw [Bool.and_eq_true] at h3
      simpa using h3.1
  · rw [if_pos h1] at h; exact absurd h h1
theorem turned_is (q Q : Rat) (hQ : q⁻¹ = Q) (v : Value) (w : World) (hx : XR w v q) (h0 : q.num ≠ 0) : Calls Tryz.prog 91 #[v] w (XPost w Q) := by subst hQ; exact turned_at q v w hx h0
set_option maxHeartbeats 8000000 in
theorem readTest_at (d k : Int) (n m : ByteArray) (hn : n.size ≤ maxLen) (hm : m.size ≤ maxLen) (w : World) : Calls Tryz.prog 110 #[.agg #[.int .i64 d, .int .i64 k, .string n, .string m]] w (TestPost w d k n m) := by
  go_enter Tryz.func110, Tryz.ntmps110
  go_upto_region 1 with (fail)
  refine wp_box2r fun w0 hsz hbw0 hA0 hC0 hF0 => ?_
  have t0 : w0.cell? ⟨w.heap.size, 0, none⟩ = some (.int .i64 d) := hA0.2 0
  have t1 : w0.cell? ⟨w.heap.size, 1, none⟩ = some (.int .i64 k) := hA0.2 1
  have t2 : w0.cell? ⟨w.heap.size, 2, none⟩ = some (.string n) := hA0.2 2
  have t3 : w0.cell? ⟨w.heap.size, 3, none⟩ = some (.string m) := hA0.2 3
  clear hsz
  by_cases hd : 1 ≤ d ∧ d ≤ 3
  · go_wp2_with fail
    refine (dwithin_yes _ _ _ hd.1 hd.2 _).mono ?_
    rintro e w' ⟨rfl, rfl⟩
    by_cases hk : 1 ≤ k ∧ k ≤ 5
    · go_wp2_with fail
      refine (dwithin_yes _ _ _ hk.1 hk.2 _).mono ?_
      rintro e w' ⟨rfl, rfl⟩
      have HTF : Hid (testF d k n m = missF n m) := by
        have : testF d k n m = missF n m := by unfold testF; rw [if_neg (fun h => h hd), if_neg (fun h => h hk)]
        exact this
      have HDK := Lib.hid (And.intro hd hk)
      clear hd hk
      go_wp2_with fail
      refine (readMiss_at n m hn hm _).mono ?_
      rintro e w1 ⟨b, a1, n1, c1, a2, n2, c2, rfl, hx, hb1⟩
      have HX := Lib.hid hx
      have hA1 := hA0.ext hb1
      have hC1 := hC0.ext hb1
      have hF1 := hF0.ext hC0 hb1
      have hbw1 := ext_trans hbw0 hb1
      clear hx t0 t1 t2 t3 hA0 hC0 hF0 hbw0 hb1
      go_upto_region 6 with (fail)
      refine wp_box1 fun w2 hsz2 hb2 hB2 => ?_
      have HX2 : Hid (missF n m = 0 → XR w2 (.agg #[.bool b, .slice a1 n1 c1, .slice a2 n2 c2]) (rQ n m)) := fun h => (HX.out h).ext hb2
      have hA2 := hA1.ext hb2
      have hC2 := hC1.ext hb2
      have hF2 := hF1.ext hC1 hb2
      have hbw2 := ext_trans hbw1 hb2
      have hlt1 : w.heap.size + 1 < w1.heap.size := hC1.1
      clear HX hA1 hC1 hF1 hbw1 hb2 hsz2
      by_cases hmf : missF n m = 0
      · have hne : (missF n m != 0) = false := by simp [hmf]
        have HMF := Lib.hid hmf
        have HT0 : Hid (testF d k n m = 0) := by have := HTF.out; rw [HMF.out] at this; exact this
        have HXR := Lib.hid (HX2.out hmf)
        have HOK := Lib.hid (missF_ok hmf)
        have HIN := Lib.hid (inv_facts (x := rQ n m) (by have := (missF_ok hmf).2; omega))
        have HSM := Lib.hid (miss_small (missF_ok hmf).1)
        have HN0 : Hid ((rQ n m).num ≠ 0) := by have h := (missF_ok hmf).2; exact (by omega : (rQ n m).num ≠ 0)
        obtain ⟨Q, HQQ⟩ : ∃ Q, Hid ((rQ n m)⁻¹ = Q) := ⟨_, rfl⟩
        clear hmf HX2 HTF
        obtain ⟨kn, hkn⟩ : ∃ kn : Nat, k = (kn : Int) := ⟨k.toNat, by have := HDK.out.2.1; omega⟩
        subst hkn
        have hlow : w.heap.size + 1 ≤ w2.heap.size := Nat.le_of_lt hC2.1
        go_wp2_with fail
        go_region_held3 (S2R w2 (w.heap.size + 1) w.heap.size #[Value.int .i64 d, Value.int .i64 (kn : Int), Value.string n, Value.string m] w1.heap.size #[Value.bool b, Value.slice a1 n1 c1, Value.slice a2 n2 c2]) (first | exact S2R.start hA2 hB2 | exact S2R.ext (by with_reducible assumption) (by with_reducible assumption) hlow hA2 hB2 | exact S2R.setN (S2R.setN (S2R.setN (S2R.setN (S2R.setN (by assumption) (Nat.le_refl _) (by simp) (Nat.ne_of_gt hlt1)) (Nat.le_refl _) (by simp) (Nat.ne_of_gt hlt1)) (Nat.le_refl _) (by simp) (Nat.ne_of_gt hlt1)) (Nat.le_refl _) (by simp) (Nat.ne_of_gt hlt1)) (Nat.le_refl _) (by simp) (Nat.ne_of_gt hlt1) | assumption) (first | (go_at_call 91; refine (turned_is (rQ n m) Q HQQ.out _ _ (HXR.out.ext (Below.refl w2.heap.size w2).drew) HN0.out).mono ?_; rintro e w3 ⟨vq, rfl, hq, hb3⟩; obtain ⟨p1, c5, p2, c6, rfl, _, _⟩ := hq.open_; have hc3 := Lib.hid (ext_trans (Below.refl w2.heap.size w2).drew hb3); have HQ := Lib.hid hq; have hC3 := hC2.ext hc3.out; have hF3 := hF2.ext hC2 hc3.out; have r0 : w3.cell? ⟨w.heap.size + 1, 0, none⟩ = some (.int .i64 0) := hC3.2 0; have r1 : w3.cell? ⟨w.heap.size + 1, 1, none⟩ = some (.int .i64 0) := hC3.2 1; have r2 : w3.cell? ⟨w.heap.size + 1, 2, none⟩ = some (.bool false) := hC3.2 2; have r3 : w3.cell? ⟨w.heap.size + 1, 3, none⟩ = some (.slice none 0 0) := hC3.2 3; have r4 : w3.cell? ⟨w.heap.size + 1, 4, none⟩ = some (.slice none 0 0) := hC3.2 4; have g0 := hF3 0; have g1 := hF3 1; have g2 := hF3 2; have g3 := hF3 3; have g4 := hF3 4; clear hq))
        have HR := Lib.hid (res5 (.int .i64 d) (.int .i64 (kn : Int)) (.bool (decide (Q.num < 0))) (.slice p1 (digs Q.num.natAbs).length c5) (.slice p2 (digs Q.den).length c6) hC3 (ext_trans hbw2 hc3.out) (Nat.le_succ _))
        have HQ5 := Lib.hid (HQ.out.keep5 (.int .i64 d) (.int .i64 (kn : Int)) (.bool (decide (Q.num < 0))) (.slice p1 (digs Q.num.natAbs).length c5) (.slice p2 (digs Q.den).length c6) hC3)
        obtain ⟨hbF, z0, z1, z2, z3, z4⟩ := id HR.out
        clear hC3 hF3 hbF
        go_wp2
        refine bodyPost_ret (v := .tuple #[.agg (betA d (kn : Int) (decide (Q.num < 0)) p1 (digs Q.num.natAbs).length c5 p2 (digs Q.den).length c6), .int .i64 0]) (by simp [results, Tryz.results110, go_sem, z0, z1, z2, z3, z4]) rfl ⟨_, _, _, _, _, _, _, _, _, by rw [HT0.out], (fun _ => ⟨rfl, by rw [Int.toNat_natCast], ?_⟩), HR.out.1⟩
        rw [HQQ.out]
        refine ⟨HDK.out.1.1, HDK.out.1.2, by have := HDK.out.2; omega, by have := HDK.out.2; omega, HQ5.out, ?_, ?_⟩
        · rw [← HQQ.out, HIN.out.1]; exact HSM.out.2
        · rw [← HQQ.out, HIN.out.2.1]; exact HSM.out.1
      · have hne : (missF n m != 0) = true := by simp [hmf]
        have HNE := Lib.hid hmf
        clear hmf HX2
        have HR := Lib.hid (res5 (.int .i64 0) (.int .i64 0) (.bool false) (.slice none 0 0) (.slice none 0 0) hC2 hbw2 (Nat.le_succ _))
        have g0 := hF2 0
        have g1 := hF2 1
        have g2 := hF2 2
        have g3 := hF2 3
        have g4 := hF2 4
        have r0 : w2.cell? ⟨w.heap.size + 1, 0, none⟩ = some (.int .i64 0) := hC2.2 0
        have r1 : w2.cell? ⟨w.heap.size + 1, 1, none⟩ = some (.int .i64 0) := hC2.2 1
        have r2 : w2.cell? ⟨w.heap.size + 1, 2, none⟩ = some (.bool false) := hC2.2 2
        have r3 : w2.cell? ⟨w.heap.size + 1, 3, none⟩ = some (.slice none 0 0) := hC2.2 3
        have r4 : w2.cell? ⟨w.heap.size + 1, 4, none⟩ = some (.slice none 0 0) := hC2.2 4
        obtain ⟨hbF, z0, z1, z2, z3, z4⟩ := id HR.out
        go_wp2
        exact bodyPost_ret (v := .tuple #[.agg (betA 0 0 false none 0 0 none 0 0), .int .i64 (missF n m)]) (by simp [results, Tryz.results110, go_sem, z0, z1, z2, z3, z4]) rfl ⟨_, _, _, _, _, _, _, _, _, by rw [HTF.out], (fun h => by rw [HTF.out] at h; exact absurd h HNE.out), HR.out.1⟩
    · go_wp2_with fail
      refine (dwithin_no _ _ _ (by omega) _).mono ?_
      rintro e w' ⟨rfl, rfl⟩
      have HTF : Hid (testF d k n m = 1) := by
        have : testF d k n m = 1 := by unfold testF; rw [if_neg (fun h => h hd), if_pos hk]
        exact this
      clear hd hk
      have HR := Lib.hid (res5 (.int .i64 0) (.int .i64 0) (.bool false) (.slice none 0 0) (.slice none 0 0) hC0 hbw0 (Nat.le_succ _))
      have g0 := hF0 0
      have g1 := hF0 1
      have g2 := hF0 2
      have g3 := hF0 3
      have g4 := hF0 4
      have r0 : w0.cell? ⟨w.heap.size + 1, 0, none⟩ = some (.int .i64 0) := hC0.2 0
      have r1 : w0.cell? ⟨w.heap.size + 1, 1, none⟩ = some (.int .i64 0) := hC0.2 1
      have r2 : w0.cell? ⟨w.heap.size + 1, 2, none⟩ = some (.bool false) := hC0.2 2
      have r3 : w0.cell? ⟨w.heap.size + 1, 3, none⟩ = some (.slice none 0 0) := hC0.2 3
      have r4 : w0.cell? ⟨w.heap.size + 1, 4, none⟩ = some (.slice none 0 0) := hC0.2 4
      obtain ⟨hbF, z0, z1, z2, z3, z4⟩ := id HR.out
      go_wp2
      exact bodyPost_ret (v := .tuple #[.agg (betA 0 0 false none 0 0 none 0 0), .int .i64 1]) (by simp [results, Tryz.results110, go_sem, z0, z1, z2, z3, z4]) rfl ⟨_, _, _, _, _, _, _, _, _, by rw [HTF.out], (fun h => by rw [HTF.out] at h; cases h), HR.out.1⟩
  · go_wp2_with fail
    refine (dwithin_no _ _ _ (by omega) _).mono ?_
    rintro e w' ⟨rfl, rfl⟩
    have HTF : Hid (testF d k n m = 4) := by
      have : testF d k n m = 4 := by unfold testF; rw [if_pos hd]
      exact this
    clear hd
    have HR := Lib.hid (res5 (.int .i64 0) (.int .i64 0) (.bool false) (.slice none 0 0) (.slice none 0 0) hC0 hbw0 (Nat.le_succ _))
    have g0 := hF0 0
    have g1 := hF0 1
    have g2 := hF0 2
    have g3 := hF0 3
    have g4 := hF0 4
    have r0 : w0.cell? ⟨w.heap.size + 1, 0, none⟩ = some (.int .i64 0) := hC0.2 0
    have r1 : w0.cell? ⟨w.heap.size + 1, 1, none⟩ = some (.int .i64 0) := hC0.2 1
    have r2 : w0.cell? ⟨w.heap.size + 1, 2, none⟩ = some (.bool false) := hC0.2 2
    have r3 : w0.cell? ⟨w.heap.size + 1, 3, none⟩ = some (.slice none 0 0) := hC0.2 3
    have r4 : w0.cell? ⟨w.heap.size + 1, 4, none⟩ = some (.slice none 0 0) := hC0.2 4
    obtain ⟨hbF, z0, z1, z2, z3, z4⟩ := id HR.out
    go_wp2
    exact bodyPost_ret (v := .tuple #[.agg (betA 0 0 false none 0 0 none 0 0), .int .i64 4]) (by simp [results, Tryz.results110, go_sem, z0, z1, z2, z3, z4]) rfl ⟨_, _, _, _, _, _, _, _, _, by rw [HTF.out], (fun h => by rw [HTF.out] at h; cases h), HR.out.1⟩
end Nm
end Go.Proofs.YtmnmepbljegjeaaGreatDoor
