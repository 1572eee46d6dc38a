/- Pairs of package decide: two rows of the call's own that grow, in an array of two. decided and readTest of package decide. readTest of package decide. Chance of package decide. Plain: the evidence as a number: it starts at 1, is never below 0, and a pair leaves it as it is on average. -/
import Derived.Test.YtilolnjbpokdnaaGreatDoorBq26
import Derived.Test.YtilolnjbpokdnaaGreatDoorProg
import Derived.Test.YtilolnjbpokdnaaGreatDoorBq00
import Derived.Test.YtilolnjbpokdnaaGreatDoorBq01
import Derived.Maps.AppendAt
import Derived.Deep.RegionLaw
import Derived.Deep.Cut
import Derived.Deep.QuietTactic
import Derived.BigQuiet
import Derived.BigRegion
import Derived.IntWalk
import Derived.Test.YtilolnjbpokdnaaGreatDoorBq37
import Derived.Test.YtilolnjbpokdnaaGreatDoorBq34
import Derived.Test.YtilolnjbpokdnaaGreatDoorBq36
import Derived.Test.YtilolnjbpokdnaaGreatDoorBq33
namespace Go.Proofs.YtilolnjbpokdnaaGreatDoor
open Go.RowKit

theorem dwithin_yes (n low high : Int) (h1 : low ≤ n) (h2 : n ≤ high) (w : World) : Calls Tryz.prog 52 #[.int .i64 n, .int .i64 low, .int .i64 high] w fun e w' => e = .returned (.bool true) ∧ w = w' := by
  go_enter Tryz.func52, Tryz.ntmps52
  go_wp2
  go_ret
  exact ⟨rfl, rfl⟩
theorem dwithin_no (n low high : Int) (h : n < low ∨ high < n) (w : World) : Calls Tryz.prog 52 #[.int .i64 n, .int .i64 low, .int .i64 high] w fun e w' => e = .returned (.bool false) ∧ w = w' := by
  by_cases h1 : n < low
  · clear h
    go_enter Tryz.func52, Tryz.ntmps52
    go_wp2
    go_ret
    exact ⟨rfl, rfl⟩
  · have h2 : decide (n ≤ high) = false := decide_eq_false (by omega)
    have h3 : low ≤ n := by omega
    clear h h1
    go_enter Tryz.func52, Tryz.ntmps52
    go_wp2
    go_ret
    exact ⟨rfl, rfl⟩

end Go.Proofs.YtilolnjbpokdnaaGreatDoor
namespace Go.Proofs.YtilolnjbpokdnaaGreatDoor
open Go.RowKit
theorem S2R.setN {W w1 : World} {B b1 : Nat} {A1 : Array Value} {b2 : Nat} {A2 : Array Value} {p : Addr} {v : Value} (h : S2R W B b1 A1 b2 A2 w1) (hp : B ≤ p.block) (h1 : b1 ≠ p.block) (h2 : b2 ≠ p.block) : S2R W B b1 A1 b2 A2 (w1.setCell p v) :=
  ⟨h.1.setCell hp _, fun j => by rw [World.cell?_setCell_other _ _ _ _ (fun e => h1 (by rw [e]))]; exact h.2.1 j, fun j => by rw [World.cell?_setCell_other _ _ _ _ (fun e => h2 (by rw [e]))]; exact h.2.2 j⟩
namespace Nm
end Nm
end Go.Proofs.YtilolnjbpokdnaaGreatDoor
namespace Go.Proofs.YtilolnjbpokdnaaGreatDoor
open Go.RowKit
namespace Nm
theorem zeroB_word : ∀ (j : Nat) (u : Value), (betA 0 0 false none 0 0 none 0 0)[j]? = some u → isWord u = false := by
  intro j u h
  match j with
  | 0 => cases h; rfl
  | 1 => cases h; rfl
  | 2 => cases h; rfl
  | 3 => cases h; rfl
  | 4 => cases h; rfl
  | n + 5 => simp at h
theorem five_other {w : World} {b : Nat} (u0 u1 u2 u3 u4 : Value) : ∀ p : Addr, p.block ≠ b → (((((w.setCell ⟨b, 0, none⟩ u0).setCell ⟨b, 1, none⟩ u1).setCell ⟨b, 2, none⟩ u2).setCell ⟨b, 3, none⟩ u3).setCell ⟨b, 4, none⟩ u4).cell? p = w.cell? p := by
  intro p hp
  have h : ∀ (w : World) (j : Nat) (u : Value), (w.setCell ⟨b, j, none⟩ u).cell? p = w.cell? p := fun w j u => World.cell?_setCell_other _ _ _ _ (fun e => hp (by rw [← e]))
  rw [h, h, h, h, h]
theorem res5 {w0 w : World} {b : Nat} (u0 u1 u2 u3 u4 : Value) (hC : Box w b (betA 0 0 false none 0 0 none 0 0)) (hb : Below w0.heap.size w0 w) (hle : w0.heap.size ≤ b) :
    let w' := (((((w.setCell ⟨b, 0, none⟩ u0).setCell ⟨b, 1, none⟩ u1).setCell ⟨b, 2, none⟩ u2).setCell ⟨b, 3, none⟩ u3).setCell ⟨b, 4, none⟩ u4)
    Below w0.heap.size w0 w' ∧ w'.cell? ⟨b, 0, none⟩ = some u0 ∧ w'.cell? ⟨b, 1, none⟩ = some u1 ∧ w'.cell? ⟨b, 2, none⟩ = some u2 ∧ w'.cell? ⟨b, 3, none⟩ = some u3 ∧ w'.cell? ⟨b, 4, none⟩ = some u4 := by
  have h := five u0 u1 u2 u3 u4 hC
  exact ⟨((((hb.setCell hle _).setCell hle _).setCell hle _).setCell hle _).setCell hle _, h.2 0, h.2 1, h.2 2, h.2 3, h.2 4⟩
theorem XR.keep5 {w : World} {b : Nat} {v : Value} {q : Rat} (u0 u1 u2 u3 u4 : Value) (h : XR w v q) (hC : Box w b (betA 0 0 false none 0 0 none 0 0)) : XR (((((w.setCell ⟨b, 0, none⟩ u0).setCell ⟨b, 1, none⟩ u1).setCell ⟨b, 2, none⟩ u2).setCell ⟨b, 3, none⟩ u3).setCell ⟨b, 4, none⟩ u4) v q := by
  obtain ⟨v1, v2, h0, h1, h2⟩ := h
  exact ⟨v1, v2, h0, h1.keepBox hC zeroB_word (five_other _ _ _ _ _), h2.keepBox hC zeroB_word (five_other _ _ _ _ _)⟩
def testF (d k : Int) (n m : ByteArray) : Int := if ¬ (1 ≤ d ∧ d ≤ 3) then 4 else if ¬ (1 ≤ k ∧ k ≤ 5) then 1 else missF n m
def TestPost (w : World) (d k : Int) (n m : ByteArray) (e : Ending) (w' : World) : Prop := ∃ dd kk b a1 n1 c1 a2 n2 c2, e = .returned (.tuple #[.agg (betA dd kk b a1 n1 c1 a2 n2 c2), .int .i64 (testF d k n m)]) ∧ (testF d k n m = 0 → dd = d ∧ kk = (k.toNat : Int) ∧ Bett w' d k.toNat (rQ n m)⁻¹ b a1 n1 c1 a2 n2 c2) ∧ Below w.heap.size w w'
theorem missF_ok {n m : ByteArray} (h : missF n m = 0) : rF n m = 0 ∧ 0 < (rQ n m).num := by
  unfold missF at h
  by_cases h1 : rF n m = 0
  · rw [if_neg (by simp [h1])] at h
    refine ⟨h1, ?_⟩
    by_cases h2 : okM (rQ n m) = false
    · rw [if_pos h2] at h; cases h
    · have h3 : okM (rQ n m) = true := by simpa using h2
      unfold okM at h3
      rw [Bool.and_eq_true] at h3
      simpa using h3.1
  · rw [if_pos h1] at h; exact absurd h h1
theorem turned_is (q Q : Rat) (hQ : q⁻¹ = Q) (v : Value) (w : World) (hx : XR w v q) (h0 : q.num ≠ 0) : Calls Tryz.prog 113 #[v] w (XPost w Q) := by subst hQ; exact turned_at q v w hx h0
set_option maxHeartbeats 8000000 in
theorem readTest_at (d k : Int) (n m : ByteArray) (hn : n.size ≤ maxLen) (hm : m.size ≤ maxLen) (w : World) : Calls Tryz.prog 62 #[.agg #[.int .i64 d, .int .i64 k, .string n, .string m]] w (TestPost w d k n m) := by
  go_enter Tryz.func62, Tryz.ntmps62
  go_upto_region 1 with (fail)
  refine wp_box2r fun w0 hsz hbw0 hA0 hC0 hF0 => ?_
  have t0 : w0.cell? ⟨w.heap.size, 0, none⟩ = some (.int .i64 d) := hA0.2 0
  have t1 : w0.cell? ⟨w.heap.size, 1, none⟩ = some (.int .i64 k) := hA0.2 1
  have t2 : w0.cell? ⟨w.heap.size, 2, none⟩ = some (.string n) := hA0.2 2
  have t3 : w0.cell? ⟨w.heap.size, 3, none⟩ = some (.string m) := hA0.2 3
  clear hsz
  by_cases hd : 1 ≤ d ∧ d ≤ 3
  · go_wp2_with fail
    refine (dwithin_yes _ _ _ hd.1 hd.2 _).mono ?_
    rintro e w' ⟨rfl, rfl⟩
    by_cases hk : 1 ≤ k ∧ k ≤ 5
    · go_wp2_with fail
      refine (dwithin_yes _ _ _ hk.1 hk.2 _).mono ?_
      rintro e w' ⟨rfl, rfl⟩
      have HTF : Hid (testF d k n m = missF n m) := by
        have : testF d k n m = missF n m := by unfold testF; rw [if_neg (fun h => h hd), if_neg (fun h => h hk)]
        exact this
      have HDK := Lib.hid (And.intro hd hk)
      clear hd hk
      go_wp2_with fail
      refine (readMiss_at n m hn hm _).mono ?_
      rintro e w1 ⟨b, a1, n1, c1, a2, n2, c2, rfl, hx, hb1⟩
      have HX := Lib.hid hx
      have hA1 := hA0.ext hb1
      have hC1 := hC0.ext hb1
      have hF1 := hF0.ext hC0 hb1
      have hbw1 := ext_trans hbw0 hb1
      clear hx t0 t1 t2 t3 hA0 hC0 hF0 hbw0 hb1
      go_upto_region 6 with (fail)
      refine wp_box1 fun w2 hsz2 hb2 hB2 => ?_
      have HX2 : Hid (missF n m = 0 → XR w2 (.agg #[.bool b, .slice a1 n1 c1, .slice a2 n2 c2]) (rQ n m)) := fun h => (HX.out h).ext hb2
      have hA2 := hA1.ext hb2
      have hC2 := hC1.ext hb2
      have hF2 := hF1.ext hC1 hb2
      have hbw2 := ext_trans hbw1 hb2
      have hlt1 : w.heap.size + 1 < w1.heap.size := hC1.1
      clear HX hA1 hC1 hF1 hbw1 hb2 hsz2
      by_cases hmf : missF n m = 0
      · have hne : (missF n m != 0) = false := by simp [hmf]
        have HMF := Lib.hid hmf
        have HT0 : Hid (testF d k n m = 0) := by have := HTF.out; rw [HMF.out] at this; exact this
        have HXR := Lib.hid (HX2.out hmf)
        have HOK := Lib.hid (missF_ok hmf)
        have HIN := Lib.hid (inv_facts (x := rQ n m) (by have := (missF_ok hmf).2; omega))
        have HSM := Lib.hid (miss_small (missF_ok hmf).1)
        have HN0 : Hid ((rQ n m).num ≠ 0) := by have h := (missF_ok hmf).2; exact (by omega : (rQ n m).num ≠ 0)
        obtain ⟨Q, HQQ⟩ : ∃ Q, Hid ((rQ n m)⁻¹ = Q) := ⟨_, rfl⟩
        clear hmf HX2 HTF
        obtain ⟨kn, hkn⟩ : ∃ kn : Nat, k = (kn : Int) := ⟨k.toNat, by have := HDK.out.2.1; omega⟩
        subst hkn
        have hlow : w.heap.size + 1 ≤ w2.heap.size := Nat.le_of_lt hC2.1
        go_wp2_with fail
        go_region_held3 (S2R w2 (w.heap.size + 1) w.heap.size #[Value.int .i64 d, Value.int .i64 (kn : Int), Value.string n, Value.string m] w1.heap.size #[Value.bool b, Value.slice a1 n1 c1, Value.slice a2 n2 c2]) (first | exact S2R.start hA2 hB2 | exact S2R.ext (by with_reducible assumption) (by with_reducible assumption) hlow hA2 hB2 | exact S2R.setN (S2R.setN (S2R.setN (S2R.setN (S2R.setN (by assumption) (Nat.le_refl _) (by simp) (Nat.ne_of_gt hlt1)) (Nat.le_refl _) (by simp) (Nat.ne_of_gt hlt1)) (Nat.le_refl _) (by simp) (Nat.ne_of_gt hlt1)) (Nat.le_refl _) (by simp) (Nat.ne_of_gt hlt1)) (Nat.le_refl _) (by simp) (Nat.ne_of_gt hlt1) | assumption) (first | (go_at_call 113; refine (turned_is (rQ n m) Q HQQ.out _ _ (HXR.out.ext (Below.refl w2.heap.size w2).drew) HN0.out).mono ?_; rintro e w3 ⟨vq, rfl, hq, hb3⟩; obtain ⟨p1, c5, p2, c6, rfl, _, _⟩ := hq.open_; have hc3 := Lib.hid (ext_trans (Below.refl w2.heap.size w2).drew hb3); have HQ := Lib.hid hq; have hC3 := hC2.ext hc3.out; have hF3 := hF2.ext hC2 hc3.out; have r0 : w3.cell? ⟨w.heap.size + 1, 0, none⟩ = some (.int .i64 0) := hC3.2 0; have r1 : w3.cell? ⟨w.heap.size + 1, 1, none⟩ = some (.int .i64 0) := hC3.2 1; have r2 : w3.cell? ⟨w.heap.size + 1, 2, none⟩ = some (.bool false) := hC3.2 2; have r3 : w3.cell? ⟨w.heap.size + 1, 3, none⟩ = some (.slice none 0 0) := hC3.2 3; have r4 : w3.cell? ⟨w.heap.size + 1, 4, none⟩ = some (.slice none 0 0) := hC3.2 4; have g0 := hF3 0; have g1 := hF3 1; have g2 := hF3 2; have g3 := hF3 3; have g4 := hF3 4; clear hq))
        have HR := Lib.hid (res5 (.int .i64 d) (.int .i64 (kn : Int)) (.bool (decide (Q.num < 0))) (.slice p1 (digs Q.num.natAbs).length c5) (.slice p2 (digs Q.den).length c6) hC3 (ext_trans hbw2 hc3.out) (Nat.le_succ _))
        have HQ5 := Lib.hid (HQ.out.keep5 (.int .i64 d) (.int .i64 (kn : Int)) (.bool (decide (Q.num < 0))) (.slice p1 (digs Q.num.natAbs).length c5) (.slice p2 (digs Q.den).length c6) hC3)
        obtain ⟨hbF, z0, z1, z2, z3, z4⟩ := id HR.out
        clear hC3 hF3 hbF
        go_wp2
        refine bodyPost_ret (v := .tuple #[.agg (betA d (kn : Int) (decide (Q.num < 0)) p1 (digs Q.num.natAbs).length c5 p2 (digs Q.den).length c6), .int .i64 0]) (by simp [results, Tryz.results62, go_sem, z0, z1, z2, z3, z4]) rfl ⟨_, _, _, _, _, _, _, _, _, by rw [HT0.out], (fun _ => ⟨rfl, by rw [Int.toNat_natCast], ?_⟩), HR.out.1⟩
        rw [HQQ.out]
        refine ⟨HDK.out.1.1, HDK.out.1.2, by have := HDK.out.2; omega, by have := HDK.out.2; omega, HQ5.out, ?_, ?_⟩
        · rw [← HQQ.out, HIN.out.1]; exact HSM.out.2
        · rw [← HQQ.out, HIN.out.2.1]; exact HSM.out.1
      · have hne : (missF n m != 0) = true := by simp [hmf]
        have HNE := Lib.hid hmf
        clear hmf HX2
        have HR := Lib.hid (res5 (.int .i64 0) (.int .i64 0) (.bool false) (.slice none 0 0) (.slice none 0 0) hC2 hbw2 (Nat.le_succ _))
        have g0 := hF2 0
        have g1 := hF2 1
        have g2 := hF2 2
        have g3 := hF2 3
        have g4 := hF2 4
        have r0 : w2.cell? ⟨w.heap.size + 1, 0, none⟩ = some (.int .i64 0) := hC2.2 0
        have r1 : w2.cell? ⟨w.heap.size + 1, 1, none⟩ = some (.int .i64 0) := hC2.2 1
        have r2 : w2.cell? ⟨w.heap.size + 1, 2, none⟩ = some (.bool false) := hC2.2 2
        have r3 : w2.cell? ⟨w.heap.size + 1, 3, none⟩ = some (.slice none 0 0) := hC2.2 3
        have r4 : w2.cell? ⟨w.heap.size + 1, 4, none⟩ = some (.slice none 0 0) := hC2.2 4
        obtain ⟨hbF, z0, z1, z2, z3, z4⟩ := id HR.out
        go_wp2
        exact bodyPost_ret (v := .tuple #[.agg (betA 0 0 false none 0 0 none 0 0), .int .i64 (missF n m)]) (by simp [results, Tryz.results62, go_sem, z0, z1, z2, z3, z4]) rfl ⟨_, _, _, _, _, _, _, _, _, by rw [HTF.out], (fun h => by rw [HTF.out] at h; exact absurd h HNE.out), HR.out.1⟩
    · go_wp2_with fail
      refine (dwithin_no _ _ _ (by omega) _).mono ?_
      rintro e w' ⟨rfl, rfl⟩
      have HTF : Hid (testF d k n m = 1) := by
        have : testF d k n m = 1 := by unfold testF; rw [if_neg (fun h => h hd), if_pos hk]
        exact this
      clear hd hk
      have HR := Lib.hid (res5 (.int .i64 0) (.int .i64 0) (.bool false) (.slice none 0 0) (.slice none 0 0) hC0 hbw0 (Nat.le_succ _))
      have g0 := hF0 0
      have g1 := hF0 1
      have g2 := hF0 2
      have g3 := hF0 3
      have g4 := hF0 4
      have r0 : w0.cell? ⟨w.heap.size + 1, 0, none⟩ = some (.int .i64 0) := hC0.2 0
      have r1 : w0.cell? ⟨w.heap.size + 1, 1, none⟩ = some (.int .i64 0) := hC0.2 1
      have r2 : w0.cell? ⟨w.heap.size + 1, 2, none⟩ = some (.bool false) := hC0.2 2
      have r3 : w0.cell? ⟨w.heap.size + 1, 3, none⟩ = some (.slice none 0 0) := hC0.2 3
      have r4 : w0.cell? ⟨w.heap.size + 1, 4, none⟩ = some (.slice none 0 0) := hC0.2 4
      obtain ⟨hbF, z0, z1, z2, z3, z4⟩ := id HR.out
      go_wp2
      exact bodyPost_ret (v := .tuple #[.agg (betA 0 0 false none 0 0 none 0 0), .int .i64 1]) (by simp [results, Tryz.results62, go_sem, z0, z1, z2, z3, z4]) rfl ⟨_, _, _, _, _, _, _, _, _, by rw [HTF.out], (fun h => by rw [HTF.out] at h; cases h), HR.out.1⟩
  · go_wp2_with fail
    refine (dwithin_no _ _ _ (by omega) _).mono ?_
    rintro e w' ⟨rfl, rfl⟩
    have HTF : Hid (testF d k n m = 4) := by
      have : testF d k n m = 4 := by unfold testF; rw [if_pos hd]
      exact this
    clear hd
    have HR := Lib.hid (res5 (.int .i64 0) (.int .i64 0) (.bool false) (.slice none 0 0) (.slice none 0 0) hC0 hbw0 (Nat.le_succ _))
    have g0 := hF0 0
    have g1 := hF0 1
    have g2 := hF0 2
    have g3 := hF0 3
    have g4 := hF0 4
    have r0 : w0.cell? ⟨w.heap.size + 1, 0, none⟩ = some (.int .i64 0) := hC0.2 0
    have r1 : w0.cell? ⟨w.heap.size + 1, 1, none⟩ = some (.int .i64 0) := hC0.2 1
    have r2 : w0.cell? ⟨w.heap.size + 1, 2, none⟩ = some (.bool false) := hC0.2 2
    have r3 : w0.cell? ⟨w.heap.size + 1, 3, none⟩ = some (.slice none 0 0) := hC0.2 3
    have r4 : w0.cell? ⟨w.heap.size + 1, 4, none⟩ = some (.slice none 0 0) := hC0.2 4
    obtain ⟨hbF, z0, z1, z2, z3, z4⟩ := id HR.out
    go_wp2
    exact bodyPost_ret (v := .tuple #[.agg (betA 0 0 false none 0 0 none 0 0), .int .i64 4]) (by simp [results, Tryz.results62, go_sem, z0, z1, z2, z3, z4]) rfl ⟨_, _, _, _, _, _, _, _, _, by rw [HTF.out], (fun h => by rw [HTF.out] at h; cases h), HR.out.1⟩
end Nm
end Go.Proofs.YtilolnjbpokdnaaGreatDoor
namespace Go.Proofs.YtilolnjbpokdnaaGreatDoor
open Go.RowKit
namespace Ch
open _root_.Go.Proofs.YtilolnjbpokdnaaGreatDoor.Nm
theorem res2 {w0 w : World} {b : Nat} {x0 x1 : Value} (u0 u1 : Value) (hC : Box w b #[x0, x1]) (hb : Below w0.heap.size w0 w) (hle : w0.heap.size ≤ b) :
    Below w0.heap.size w0 ((w.setCell ⟨b, 0, none⟩ u0).setCell ⟨b, 1, none⟩ u1) ∧ ((w.setCell ⟨b, 0, none⟩ u0).setCell ⟨b, 1, none⟩ u1).cell? ⟨b, 0, none⟩ = some u0 ∧ ((w.setCell ⟨b, 0, none⟩ u0).setCell ⟨b, 1, none⟩ u1).cell? ⟨b, 1, none⟩ = some u1 := by
  have h := box2_1 (box2_0 hC u0) u1
  exact ⟨(hb.setCell hle _).setCell hle _, h.2 0, h.2 1⟩
/-- the arguments are in their ranges -/
def chR (p z o : Int) : Prop := (0 ≤ p ∧ p ≤ 8) ∧ (0 ≤ z ∧ z ≤ 1000) ∧ (0 ≤ o ∧ o ≤ 1000)
instance (p z o : Int) : Decidable (chR p z o) := by unfold chR; exact inferInstance
def chT (d k : Int) (n m : ByteArray) (p z o : Int) : Rat := chQ d k.toNat (rQ n m)⁻¹ p.toNat z.toNat o.toNat p.toNat
def chanF (d k : Int) (n m : ByteArray) (p z o : Int) : Int := if testF d k n m ≠ 0 then testF d k n m else if chR p z o then outF (chT d k n m p z o) else 1
def chanN (d k : Int) (n m : ByteArray) (p z o : Int) : ByteArray := if testF d k n m ≠ 0 then ⟨#[]⟩ else if chR p z o then outN (chT d k n m p z o) else ⟨#[]⟩
def chanD (d k : Int) (n m : ByteArray) (p z o : Int) : ByteArray := if testF d k n m ≠ 0 then ⟨#[]⟩ else if chR p z o then outD (chT d k n m p z o) else ⟨#[]⟩
def ChanPost (w : World) (d k : Int) (n m : ByteArray) (p z o : Int) (e : Ending) (w' : World) : Prop :=
  e = .returned (.tuple #[.agg #[.string (chanN d k n m p z o), .string (chanD d k n m p z o)], .int .i64 (chanF d k n m p z o)]) ∧ Below w.heap.size w w'
theorem chQ_sz (d : Int) (bets : Nat) (q : Rat) {n z o k : Nat} (hn : n ≤ 8) (hk : k ≤ 8) (hz : z ≤ 1000) (ho : o ≤ 1000) : Sz (chQ d bets q n z o k) := by
  have h := even_int hz ho
  have h3 : evenN z o ≤ 1000000 := by unfold evenN; omega
  exact Fit.sz (by omega) (ch_fit (many_fit (by omega)) (many_fit (by omega)) (many_fit h3) hn k).2
theorem chan_out {d k : Int} {n m : ByteArray} {p z o : Int} (h : testF d k n m = 0) (hr : ¬ chR p z o) : chanN d k n m p z o = ⟨#[]⟩ ∧ chanD d k n m p z o = ⟨#[]⟩ ∧ chanF d k n m p z o = 1 := by
  unfold chanN chanD chanF
  rw [if_neg (by omega), if_neg hr, if_neg (by omega), if_neg hr, if_neg (by omega), if_neg hr]
  exact ⟨rfl, rfl, rfl⟩
set_option maxRecDepth 100000 in
set_option maxHeartbeats 16000000 in
theorem chance_at (d k : Int) (n m : ByteArray) (hn : n.size ≤ maxLen) (hm : m.size ≤ maxLen) (p z o : Int) (w : World) : Calls Tryz.prog 18 #[.agg #[.int .i64 d, .int .i64 k, .string n, .string m], .int .i64 p, .int .i64 z, .int .i64 o] w (ChanPost w d k n m p z o) := by
  go_enter Tryz.func18, Tryz.ntmps18
  go_upto_region 1 with (fail)
  refine wp_box2r fun w0 hsz hbw0 hA0 hC0 hF0 => ?_
  have t0 : w0.cell? ⟨w.heap.size, 0, none⟩ = some (.int .i64 d) := hA0.2 0
  have t1 : w0.cell? ⟨w.heap.size, 1, none⟩ = some (.int .i64 k) := hA0.2 1
  have t2 : w0.cell? ⟨w.heap.size, 2, none⟩ = some (.string n) := hA0.2 2
  have t3 : w0.cell? ⟨w.heap.size, 3, none⟩ = some (.string m) := hA0.2 3
  clear hsz
  go_wp2_with fail
  refine (readTest_at d k n m hn hm _).mono ?_
  rintro e w1 ⟨dd, kk, b, a1, n1, c1, a2, n2, c2, rfl, hbt, hb1⟩
  have HT := Lib.hid hbt
  have hC1 := hC0.ext hb1
  have hF1 := hF0.ext hC0 hb1
  have hbw1 := ext_trans hbw0 hb1
  clear hbt t0 t1 t2 t3 hA0 hC0 hF0 hbw0 hb1
  go_upto_region 2 with (fail)
  refine wp_box1 fun w2 hsz2 hb2 hB2 => ?_
  clear hsz2
  have hC2 := hC1.ext hb2
  have hF2 := hF1.ext hC1 hb2
  have hbw2 := ext_trans hbw1 hb2
  by_cases htf : testF d k n m = 0
  · have hne : (testF d k n m != 0) = false := by simp [htf]
    have HT2 := Lib.hid (HT.out htf)
    have HTF := Lib.hid htf
    clear HT htf
    obtain ⟨hd1, hk1, hbo⟩ := id HT2.out
    subst hd1
    obtain ⟨kn, HKN⟩ : ∃ kn, Hid (k.toNat = kn) := ⟨_, rfl⟩
    rw [HKN.out] at hk1 hbo
    subst hk1
    have HBO := Lib.hid (hbo.ext hb2)
    clear hbo HT2 hC1 hF1 hbw1 hb2
    by_cases hp : 0 ≤ p ∧ p ≤ 8
    · go_wp2_with fail
      refine (dwithin_yes _ _ _ hp.1 hp.2 _).mono ?_
      rintro e w' ⟨rfl, rfl⟩
      by_cases hz : 0 ≤ z ∧ z ≤ 1000
      · go_wp2_with fail
        refine (dwithin_yes _ _ _ hz.1 hz.2 _).mono ?_
        rintro e w' ⟨rfl, rfl⟩
        by_cases ho : 0 ≤ o ∧ o ≤ 1000
        · go_wp2_with fail
          refine (dwithin_yes _ _ _ ho.1 ho.2 _).mono ?_
          rintro e w' ⟨rfl, rfl⟩
          obtain ⟨pn, rfl⟩ : ∃ x : Nat, p = (x : Int) := ⟨p.toNat, by omega⟩
          obtain ⟨zn, rfl⟩ : ∃ x : Nat, z = (x : Int) := ⟨z.toNat, by omega⟩
          obtain ⟨on, rfl⟩ : ∃ x : Nat, o = (x : Int) := ⟨o.toNat, by omega⟩
          have hpn : pn ≤ 8 := by omega
          have hzn : zn ≤ 1000 := by omega
          have hon : on ≤ 1000 := by omega
          obtain ⟨Q, HQ⟩ : ∃ Q, Hid (chQ dd kn (rQ n m)⁻¹ pn zn on pn = Q) := ⟨_, rfl⟩
          have HP : Hid (chanN dd k n m pn zn on = outN Q ∧ chanD dd k n m pn zn on = outD Q ∧ chanF dd k n m pn zn on = outF Q) := by
            have hc : chR (pn : Int) (zn : Int) (on : Int) := ⟨hp, hz, ho⟩
            have h0 := HTF.out
            have e : chT dd k n m pn zn on = Q := by rw [← HQ.out, ← HKN.out]; rfl
            have : chanN dd k n m pn zn on = outN Q ∧ chanD dd k n m pn zn on = outD Q ∧ chanF dd k n m pn zn on = outF Q := by
              unfold chanN chanD chanF
              rw [if_neg (by omega), if_pos hc, if_neg (by omega), if_pos hc, if_neg (by omega), if_pos hc, e]
              exact ⟨rfl, rfl, rfl⟩
            exact this
          have HSZ : Hid (Sz Q) := by
            have : Sz Q := by rw [← HQ.out]; exact chQ_sz _ _ _ hpn hpn hzn hon
            exact this
          clear hp hz ho
          have y0 : w2.cell? ⟨w1.heap.size, 0, none⟩ = some (.int .i64 dd) := hB2.2 0
          have y1 : w2.cell? ⟨w1.heap.size, 1, none⟩ = some (.int .i64 (kn : Int)) := hB2.2 1
          have y2 : w2.cell? ⟨w1.heap.size, 2, none⟩ = some (.bool b) := hB2.2 2
          have y3 : w2.cell? ⟨w1.heap.size, 3, none⟩ = some (.slice a1 n1 c1) := hB2.2 3
          have y4 : w2.cell? ⟨w1.heap.size, 4, none⟩ = some (.slice a2 n2 c2) := hB2.2 4
          go_wp2_with fail
          refine (chances_at dd kn (rQ n m)⁻¹ b a1 n1 c1 a2 n2 c2 _ HBO.out pn zn on hpn hzn hon).mono ?_
          rintro e w3 ⟨a, cap, ts, rfl, hsl, hlen, hts, hb3⟩
          have hC3 := hC2.ext hb3
          have hF3 := hF2.ext hC2 hb3
          have hbw3 := ext_trans hbw2 hb3
          clear y0 y1 y2 y3 y4 hB2 hC2 hF2 hbw2 hb3
          have hlt : pn < ts.length := by omega
          have hgk := List.getElem?_eq_getElem hlt
          generalize ts[pn] = t at hgk
          have hxt := hts pn t hgk
          rw [HQ.out] at hxt
          obtain ⟨b', o', rfl, hcs⟩ := hsl.elem (fun _ => rfl) (by omega : 0 < 3) hgk
          have e0 := hcs 0 _ rfl
          have e1 := hcs 1 _ rfl
          have e2 := hcs 2 _ rfl
          rw [Nat.add_zero] at e0
          have hi0 : (0 : Int) ≤ (pn : Int) := Int.natCast_nonneg _
          have hi1 : (pn : Int) < ((pn + 1 : Nat) : Int) := by omega
          have HX := Lib.hid hxt
          clear hcs hgk hts hsl hlen hlt hxt
          go_wp2_with fail
          refine (ratio_at Q _ _ HX.out HSZ.out.1 HSZ.out.2).mono ?_
          rintro e w4 ⟨rfl, hb4⟩
          have hC4 := hC3.ext hb4
          have hF4 := hF3.ext hC3 hb4
          have hbw4 := ext_trans hbw3 hb4
          clear e0 e1 e2 hC3 hF3 hbw3 hb4
          have HR := Lib.hid (res2 (.string (outN Q)) (.string (outD Q)) hC4 hbw4 (Nat.le_succ _))
          have g0 := hF4 0
          have g1 := hF4 1
          have r0 : w4.cell? ⟨w.heap.size + 1, 0, none⟩ = some (.string ⟨#[]⟩) := hC4.2 0
          have r1 : w4.cell? ⟨w.heap.size + 1, 1, none⟩ = some (.string ⟨#[]⟩) := hC4.2 1
          obtain ⟨hbF, z0, z1⟩ := id HR.out
          clear hbF
          go_wp2
          refine bodyPost_ret (v := .tuple #[.agg #[.string (outN Q), .string (outD Q)], .int .i64 (outF Q)]) (by simp [results, Tryz.results18, go_sem, z0, z1]) rfl ⟨?_, HR.out.1⟩
          rw [HP.out.1, HP.out.2.1, HP.out.2.2]
        · go_wp2_with fail
          refine (dwithin_no _ _ _ (by omega) _).mono ?_
          rintro e w' ⟨rfl, rfl⟩
          have HP : Hid (chanN dd k n m p z o = ⟨#[]⟩ ∧ chanD dd k n m p z o = ⟨#[]⟩ ∧ chanF dd k n m p z o = 1) := chan_out HTF.out (fun h => ho h.2.2)
          clear hp hz ho
          have HR := Lib.hid (res2 (.string ⟨#[]⟩) (.string ⟨#[]⟩) hC2 hbw2 (Nat.le_succ _))
          have g0 := hF2 0
          have g1 := hF2 1
          have r0 : w2.cell? ⟨w.heap.size + 1, 0, none⟩ = some (.string ⟨#[]⟩) := hC2.2 0
          have r1 : w2.cell? ⟨w.heap.size + 1, 1, none⟩ = some (.string ⟨#[]⟩) := hC2.2 1
          obtain ⟨hbF, z0, z1⟩ := id HR.out
          clear hbF
          go_wp2
          refine bodyPost_ret (v := .tuple #[.agg #[.string ⟨#[]⟩, .string ⟨#[]⟩], .int .i64 (1)]) (by simp [results, Tryz.results18, go_sem, z0, z1]) rfl ⟨?_, HR.out.1⟩
          rw [HP.out.1, HP.out.2.1, HP.out.2.2]
      · go_wp2_with fail
        refine (dwithin_no _ _ _ (by omega) _).mono ?_
        rintro e w' ⟨rfl, rfl⟩
        have HP : Hid (chanN dd k n m p z o = ⟨#[]⟩ ∧ chanD dd k n m p z o = ⟨#[]⟩ ∧ chanF dd k n m p z o = 1) := chan_out HTF.out (fun h => hz h.2.1)
        clear hp hz
        have HR := Lib.hid (res2 (.string ⟨#[]⟩) (.string ⟨#[]⟩) hC2 hbw2 (Nat.le_succ _))
        have g0 := hF2 0
        have g1 := hF2 1
        have r0 : w2.cell? ⟨w.heap.size + 1, 0, none⟩ = some (.string ⟨#[]⟩) := hC2.2 0
        have r1 : w2.cell? ⟨w.heap.size + 1, 1, none⟩ = some (.string ⟨#[]⟩) := hC2.2 1
        obtain ⟨hbF, z0, z1⟩ := id HR.out
        clear hbF
        go_wp2
        refine bodyPost_ret (v := .tuple #[.agg #[.string ⟨#[]⟩, .string ⟨#[]⟩], .int .i64 (1)]) (by simp [results, Tryz.results18, go_sem, z0, z1]) rfl ⟨?_, HR.out.1⟩
        rw [HP.out.1, HP.out.2.1, HP.out.2.2]
    · go_wp2_with fail
      refine (dwithin_no _ _ _ (by omega) _).mono ?_
      rintro e w' ⟨rfl, rfl⟩
      have HP : Hid (chanN dd k n m p z o = ⟨#[]⟩ ∧ chanD dd k n m p z o = ⟨#[]⟩ ∧ chanF dd k n m p z o = 1) := chan_out HTF.out (fun h => hp h.1)
      clear hp
      have HR := Lib.hid (res2 (.string ⟨#[]⟩) (.string ⟨#[]⟩) hC2 hbw2 (Nat.le_succ _))
      have g0 := hF2 0
      have g1 := hF2 1
      have r0 : w2.cell? ⟨w.heap.size + 1, 0, none⟩ = some (.string ⟨#[]⟩) := hC2.2 0
      have r1 : w2.cell? ⟨w.heap.size + 1, 1, none⟩ = some (.string ⟨#[]⟩) := hC2.2 1
      obtain ⟨hbF, z0, z1⟩ := id HR.out
      clear hbF
      go_wp2
      refine bodyPost_ret (v := .tuple #[.agg #[.string ⟨#[]⟩, .string ⟨#[]⟩], .int .i64 (1)]) (by simp [results, Tryz.results18, go_sem, z0, z1]) rfl ⟨?_, HR.out.1⟩
      rw [HP.out.1, HP.out.2.1, HP.out.2.2]
  · have hne : (testF d k n m != 0) = true := by simp [htf]
    have HP : Hid (chanN d k n m p z o = ⟨#[]⟩ ∧ chanD d k n m p z o = ⟨#[]⟩ ∧ chanF d k n m p z o = testF d k n m) := by
      have : chanN d k n m p z o = ⟨#[]⟩ ∧ chanD d k n m p z o = ⟨#[]⟩ ∧ chanF d k n m p z o = testF d k n m := by
        unfold chanN chanD chanF
        rw [if_pos htf, if_pos htf, if_pos htf]
        exact ⟨rfl, rfl, rfl⟩
      exact this
    clear htf HT
    have HR := Lib.hid (res2 (.string ⟨#[]⟩) (.string ⟨#[]⟩) hC2 hbw2 (Nat.le_succ _))
    have g0 := hF2 0
    have g1 := hF2 1
    have r0 : w2.cell? ⟨w.heap.size + 1, 0, none⟩ = some (.string ⟨#[]⟩) := hC2.2 0
    have r1 : w2.cell? ⟨w.heap.size + 1, 1, none⟩ = some (.string ⟨#[]⟩) := hC2.2 1
    obtain ⟨hbF, z0, z1⟩ := id HR.out
    clear hbF
    go_wp2
    refine bodyPost_ret (v := .tuple #[.agg #[.string ⟨#[]⟩, .string ⟨#[]⟩], .int .i64 (testF d k n m)]) (by simp [results, Tryz.results18, go_sem, z0, z1]) rfl ⟨?_, HR.out.1⟩
    rw [HP.out.1, HP.out.2.1, HP.out.2.2]
end Ch
end Go.Proofs.YtilolnjbpokdnaaGreatDoor
namespace Go.Proofs.YtilolnjbpokdnaaGreatDoor
namespace Nm

theorem rpow_add (a : Rat) (n m : Nat) : a ^ (n + m) = a ^ n * a ^ m := by
  induction m with
  | zero => simp [Rat.pow_zero, Rat.mul_one]
  | succ m ih => rw [← Nat.add_assoc, Rat.pow_succ, Rat.pow_succ, ih, Rat.mul_assoc]
theorem rmul_pow (a b : Rat) (n : Nat) : (a * b) ^ n = a ^ n * b ^ n := by
  induction n with
  | zero => simp [Rat.pow_zero, Rat.mul_one]
  | succ n ih => rw [Rat.pow_succ, Rat.pow_succ, Rat.pow_succ, ih]; grind
theorem ne_of_pos {a : Rat} (h : 0 < a) : a ≠ 0 := fun e => by rw [e] at h; exact absurd h (by decide)
theorem rpow_ne {a : Rat} (h : 0 < a) (n : Nat) : a ^ n ≠ 0 := ne_of_pos (Rat.pow_pos h)
/-- what a bet has made of 1 -/
def winR (bets k : Nat) : Rat := ((bets + 1 + k : Nat) : Rat) / ((bets + 1 : Nat) : Rat)
def loseR (bets k : Nat) : Rat := ((bets + 1 - k : Nat) : Rat) / ((bets + 1 : Nat) : Rat)
def betR (bets up down k : Nat) : Rat := winR bets k ^ up * loseR bets k ^ down
def sideS (bets up down : Nat) : Nat → Rat
  | 0 => 0
  | k + 1 => sideS bets up down k + betR bets up down (k + 1)
def sideR (bets up down : Nat) : Rat := sideS bets up down bets / (bets : Rat)
theorem natCast_pos {n : Nat} (h : 0 < n) : (0 : Rat) < ((n : Nat) : Rat) := by
  have := Rat.natCast_lt_natCast.2 h
  exact this
theorem cap_side (bets up down : Nat) : ∀ k, ((capS bets up down k : Nat) : Rat) = ((bets + 1 : Nat) : Rat) ^ (up + down) * sideS bets up down k
  | 0 => by simp [capS, sideS, Rat.mul_zero]
  | k + 1 => by
    have hp : (0 : Rat) < ((bets + 1 : Nat) : Rat) := natCast_pos (by omega)
    have h1 := rpow_ne hp up
    have h2 := rpow_ne hp down
    have ew : ((bets + 1 : Nat) : Rat) * winR bets (k + 1) = ((bets + 1 + (k + 1) : Nat) : Rat) := by
      unfold winR
      generalize ((bets + 1 + (k + 1) : Nat) : Rat) = x
      have := ne_of_pos hp
      grind
    have el : ((bets + 1 : Nat) : Rat) * loseR bets (k + 1) = ((bets + 1 - (k + 1) : Nat) : Rat) := by
      unfold loseR
      generalize ((bets + 1 - (k + 1) : Nat) : Rat) = x
      have := ne_of_pos hp
      grind
    show (((capS bets up down k + (bets + 1 + (k + 1)) ^ up * (bets + 1 - (k + 1)) ^ down : Nat)) : Rat) = _
    rw [Rat.natCast_add, Rat.natCast_mul, Rat.natCast_pow, Rat.natCast_pow, cap_side bets up down k, ← ew, ← el]
    show _ = _ * (sideS bets up down k + betR bets up down (k + 1))
    unfold betR
    rw [rmul_pow, rmul_pow, rpow_add]
    generalize ((bets + 1 : Nat) : Rat) ^ up = A
    generalize ((bets + 1 : Nat) : Rat) ^ down = B
    grind
/-- the evidence of a direction -/
def evR (d : Int) (bets up down : Nat) : Rat := if d = 1 then sideR bets up down else if d = 2 then sideR bets down up else (sideR bets up down + sideR bets down up) / 2
theorem evQ_real (d : Int) (h1 : 1 ≤ d) (h3 : d ≤ 3) (bets : Nat) (hb : 1 ≤ bets) (up down : Nat) : evQ d bets up down = evR d bets up down := by
  have hp : (0 : Rat) < ((bets + 1 : Nat) : Rat) := natCast_pos (by omega)
  have hb' := ne_of_pos (natCast_pos (n := bets) (by omega))
  have h2 := rpow_ne hp (up + down)
  have c1 := cap_side bets up down bets
  have c2 := cap_side bets down up bets
  rw [Nat.add_comm down up] at c2
  unfold evQ
  rw [Rat.mkRat_eq_div, Rat.intCast_natCast]
  unfold evSum evDen evParts evR sideR capN
  obtain rfl | rfl | rfl : d = 1 ∨ d = 2 ∨ d = 3 := by omega
  · simp only [if_true, show ¬ ((1 : Int) = 2) by decide, if_false, Nat.add_zero, Nat.mul_one, Rat.natCast_mul, Rat.natCast_pow, c1]
    generalize ((bets + 1 : Nat) : Rat) ^ (up + down) = P at *
    grind
  · simp only [if_true, show ¬ ((2 : Int) = 1) by decide, if_false, Nat.zero_add, Nat.mul_one, Rat.natCast_mul, Rat.natCast_pow, c2]
    generalize ((bets + 1 : Nat) : Rat) ^ (up + down) = P at *
    grind
  · simp only [show ¬ ((3 : Int) = 1) by decide, show ¬ ((3 : Int) = 2) by decide, if_false, Rat.natCast_mul, Rat.natCast_pow, Rat.natCast_add, c1, c2]
    rw [Rat.natCast_add] at h2
    generalize (((bets : Nat) : Rat) + ((1 : Nat) : Rat)) ^ (up + down) = P at *
    have e2 : ((1 : Nat) : Rat) + ((1 : Nat) : Rat) = 2 := by rw [← Rat.natCast_add]; rfl
    rw [e2]
    grind
end Nm
end Go.Proofs.YtilolnjbpokdnaaGreatDoor
