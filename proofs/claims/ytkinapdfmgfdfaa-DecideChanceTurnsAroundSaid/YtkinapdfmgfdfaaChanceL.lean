/- Plain: what the arms exchanged do to chances. (Several texts in one: Chance, ChanceL.) -/
import Derived.Test.YtkinapdfmgfdfaaChances
import Derived.Test.YtkinapdfmgfdfaaTest2
namespace Go.Proofs.Ytkinapdfmgfdfaa
open Go.RowKit
namespace Ch
open Nm
theorem res2 {w0 w : World} {b : Nat} {x0 x1 : Value} (u0 u1 : Value) (hC : Box w b #[x0, x1]) (hb : Below w0.heap.size w0 w) (hle : w0.heap.size ≤ b) :
    Below w0.heap.size w0 ((w.setCell ⟨b, 0, none⟩ u0).setCell ⟨b, 1, none⟩ u1) ∧ ((w.setCell ⟨b, 0, none⟩ u0).setCell ⟨b, 1, none⟩ u1).cell? ⟨b, 0, none⟩ = some u0 ∧ ((w.setCell ⟨b, 0, none⟩ u0).setCell ⟨b, 1, none⟩ u1).cell? ⟨b, 1, none⟩ = some u1 := by
  have h := box2_1 (box2_0 hC u0) u1
  exact ⟨(hb.setCell hle _).setCell hle _, h.2 0, h.2 1⟩
/-- the arguments are in their ranges -/
def chR (p z o : Int) : Prop := (0 ≤ p ∧ p ≤ 8) ∧ (0 ≤ z ∧ z ≤ 1000) ∧ (0 ≤ o ∧ o ≤ 1000)
instance (p z o : Int) : Decidable (chR p z o) := by unfold chR; exact inferInstance
def chT (d k : Int) (n m : ByteArray) (p z o : Int) : Rat := chQ d k.toNat (rQ n m)⁻¹ p.toNat z.toNat o.toNat p.toNat
def chanF (d k : Int) (n m : ByteArray) (p z o : Int) : Int := if testF d k n m ≠ 0 then testF d k n m else if chR p z o then outF (chT d k n m p z o) else 1
def chanN (d k : Int) (n m : ByteArray) (p z o : Int) : ByteArray := if testF d k n m ≠ 0 then ⟨#[]⟩ else if chR p z o then outN (chT d k n m p z o) else ⟨#[]⟩
def chanD (d k : Int) (n m : ByteArray) (p z o : Int) : ByteArray := if testF d k n m ≠ 0 then ⟨#[]⟩ else if chR p z o then outD (chT d k n m p z o) else ⟨#[]⟩
def ChanPost (w : World) (d k : Int) (n m : ByteArray) (p z o : Int) (e : Ending) (w' : World) : Prop :=
  e = .returned (.tuple #[.agg #[.string (chanN d k n m p z o), .string (chanD d k n m p z o)], .int .i64 (chanF d k n m p z o)]) ∧ Below w.heap.size w w'
theorem chQ_sz (d : Int) (bets : Nat) (q : Rat) {n z o k : Nat} (hn : n ≤ 8) (hk : k ≤ 8) (hz : z ≤ 1000) (ho : o ≤ 1000) : Sz (chQ d bets q n z o k) := by
  have h := even_int hz ho
  have h3 : evenN z o ≤ 1000000 := by unfold evenN; omega
  exact Fit.sz (by omega) (ch_fit (many_fit (by omega)) (many_fit (by omega)) (many_fit h3) hn k).2
theorem chan_out {d k : Int} {n m : ByteArray} {p z o : Int} (h : testF d k n m = 0) (hr : ¬ chR p z o) : chanN d k n m p z o = ⟨#[]⟩ ∧ chanD d k n m p z o = ⟨#[]⟩ ∧ chanF d k n m p z o = 1 := by
  unfold chanN chanD chanF
  rw [if_neg (by omega), if_neg hr, if_neg (by omega), if_neg hr, if_neg (by omega), if_neg hr]
  exact ⟨rfl, rfl, rfl⟩
set_option maxRecDepth 100000 in
set_option maxHeartbeats 16000000 in
theorem chance_at (d k : Int) (n m : ByteArray) (hn : n.size ≤ maxLen) (hm : m.size ≤ maxLen) (p z o : Int) (w : World) : Calls Try.prog 9 #[.agg #[.int .i64 d, .int .i64 k, .string n, .string m], .int .i64 p, .int .i64 z, .int .i64 o] w (ChanPost w d k n m p z o) := by
  go_enter Try.func9, Try.ntmps9
  go_upto_region 1 with (fail)
  refine wp_box2r fun w0 hsz hbw0 hA0 hC0 hF0 => ?_
  have t0 : w0.cell? ⟨w.heap.size, 0, none⟩ = some (.int .i64 d) := hA0.2 0
  have t1 : w0.cell? ⟨w.heap.size, 1, none⟩ = some (.int .i64 k) := hA0.2 1
  have t2 : w0.cell? ⟨w.heap.size, 2, none⟩ = some (.string n) := hA0.2 2
  have t3 : w0.cell? ⟨w.heap.size, 3, none⟩ = some (.string m) := hA0.2 3
  clear hsz
  go_wp2_with fail
  refine (readTest_at d k n m hn hm _).mono ?_
  rintro e w1 ⟨dd, kk, b, a1, n1, c1, a2, n2, c2, rfl, hbt, hb1⟩
  have HT := Lib.hid hbt
  have hC1 := hC0.ext hb1
  have hF1 := hF0.ext hC0 hb1
  have hbw1 := ext_trans hbw0 hb1
  clear hbt t0 t1 t2 t3 hA0 hC0 hF0 hbw0 hb1
  go_upto_region 2 with (fail)
  refine wp_box1 fun w2 hsz2 hb2 hB2 => ?_
  clear hsz2
  have hC2 := hC1.ext hb2
  have hF2 := hF1.ext hC1 hb2
  have hbw2 := ext_trans hbw1 hb2
  by_cases htf : testF d k n m = 0
  · have hne : (testF d k n m != 0) = false := by simp [htf]
    have HT2 := Lib.hid (HT.out htf)
    have HTF := Lib.hid htf
    clear HT htf
    obtain ⟨hd1, hk1, hbo⟩ := id HT2.out
    subst hd1
    obtain ⟨kn, HKN⟩ : ∃ kn, Hid (k.toNat = kn) := ⟨_, rfl⟩
    rw [HKN.out] at hk1 hbo
    subst hk1
    have HBO := Lib.hid (hbo.ext hb2)
    clear hbo HT2 hC1 hF1 hbw1 hb2
    by_cases hp : 0 ≤ p ∧ p ≤ 8
    · go_wp2_with fail
      refine (dwithin_yes _ _ _ hp.1 hp.2 _).mono ?_
      rintro e w' ⟨rfl, rfl⟩
      by_cases hz : 0 ≤ z ∧ z ≤ 1000
      · go_wp2_with fail
        refine (dwithin_yes _ _ _ hz.1 hz.2 _).mono ?_
        rintro e w' ⟨rfl, rfl⟩
        by_cases ho : 0 ≤ o ∧ o ≤ 1000
        · go_wp2_with fail
          refine (dwithin_yes _ _ _ ho.1 ho.2 _).mono ?_
          rintro e w' ⟨rfl, rfl⟩
          obtain ⟨pn, rfl⟩ : ∃ x : Nat, p = (x : Int) := ⟨p.toNat, by omega⟩
          obtain ⟨zn, rfl⟩ : ∃ x : Nat, z = (x : Int) := ⟨z.toNat, by omega⟩
          obtain ⟨on, rfl⟩ : ∃ x : Nat, o = (x : Int) := ⟨o.toNat, by omega⟩
          have hpn : pn ≤ 8 := by omega
          have hzn : zn ≤ 1000 := by omega
          have hon : on ≤ 1000 := by omega
          obtain ⟨Q, HQ⟩ : ∃ Q, Hid (chQ dd kn (rQ n m)⁻¹ pn zn on pn = Q) := ⟨_, rfl⟩
          have HP : Hid (chanN dd k n m pn zn on = outN Q ∧ chanD dd k n m pn zn on = outD Q ∧ chanF dd k n m pn zn on = outF Q) := by
            have hc : chR (pn : Int) (zn : Int) (on : Int) := ⟨hp, hz, ho⟩
            have h0 := HTF.out
            have e : chT dd k n m pn zn on = Q := by rw [← HQ.out, ← HKN.out]; rfl
            have : chanN dd k n m pn zn on = outN Q ∧ chanD dd k n m pn zn on = outD Q ∧ chanF dd k n m pn zn on = outF Q := by
              unfold chanN chanD chanF
              rw [if_neg (by omega), if_pos hc, if_neg (by omega), if_pos hc, if_neg (by omega), if_pos hc, e]
              exact ⟨rfl, rfl, rfl⟩
            exact this
          have HSZ : Hid (Sz Q) := by
            have : Sz Q := by rw [← HQ.out]; exact chQ_sz _ _ _ hpn hpn hzn hon
            exact this
          clear hp hz ho
          have y0 : w2.cell? ⟨w1.heap.size, 0, none⟩ = some (.int .i64 dd) := hB2.2 0
          have y1 : w2.cell? ⟨w1.heap.size, 1, none⟩ = some (.int .i64 (kn : Int)) := hB2.2 1
          have y2 : w2.cell? ⟨w1.heap.size, 2, none⟩ = some (.bool b) := hB2.2 2
          have y3 : w2.cell? ⟨w1.heap.size, 3, none⟩ = some (.slice a1 n1 c1) := hB2.2 3
          have y4 : w2.cell? ⟨w1.heap.size, 4, none⟩ = some (.slice a2 n2 c2) := hB2.2 4
          go_wp2_with fail
          refine (chances_at dd kn (rQ n m)⁻¹ b a1 n1 c1 a2 n2 c2 _ HBO.out pn zn on hpn hzn hon).mono ?_
          rintro e w3 ⟨a, cap, ts, rfl, hsl, hlen, hts, hb3⟩
          have hC3 := hC2.ext hb3
          have hF3 := hF2.ext hC2 hb3
          have hbw3 := ext_trans hbw2 hb3
          clear y0 y1 y2 y3 y4 hB2 hC2 hF2 hbw2 hb3
          have hlt : pn < ts.length := by omega
          have hgk := List.getElem?_eq_getElem hlt
          generalize ts[pn] = t at hgk
          have hxt := hts pn t hgk
          rw [HQ.out] at hxt
          obtain ⟨b', o', rfl, hcs⟩ := hsl.elem (fun _ => rfl) (by omega : 0 < 3) hgk
          have e0 := hcs 0 _ rfl
          have e1 := hcs 1 _ rfl
          have e2 := hcs 2 _ rfl
          rw [Nat.add_zero] at e0
          have hi0 : (0 : Int) ≤ (pn : Int) := Int.natCast_nonneg _
          have hi1 : (pn : Int) < ((pn + 1 : Nat) : Int) := by omega
          have HX := Lib.hid hxt
          clear hcs hgk hts hsl hlen hlt hxt
          go_wp2_with fail
          refine (ratio_at Q _ _ HX.out HSZ.out.1 HSZ.out.2).mono ?_
          rintro e w4 ⟨rfl, hb4⟩
          have hC4 := hC3.ext hb4
          have hF4 := hF3.ext hC3 hb4
          have hbw4 := ext_trans hbw3 hb4
          clear e0 e1 e2 hC3 hF3 hbw3 hb4
          have HR := Lib.hid (res2 (.string (outN Q)) (.string (outD Q)) hC4 hbw4 (Nat.le_succ _))
          have g0 := hF4 0
          have g1 := hF4 1
          have r0 : w4.cell? ⟨w.heap.size + 1, 0, none⟩ = some (.string ⟨#[]⟩) := hC4.2 0
          have r1 : w4.cell? ⟨w.heap.size + 1, 1, none⟩ = some (.string ⟨#[]⟩) := hC4.2 1
          obtain ⟨hbF, z0, z1⟩ := id HR.out
          clear hbF
          go_wp2
          refine bodyPost_ret (v := .tuple #[.agg #[.string (outN Q), .string (outD Q)], .int .i64 (outF Q)]) (by simp [results, Try.results9, go_sem, z0, z1]) rfl ⟨?_, HR.out.1⟩
          rw [HP.out.1, HP.out.2.1, HP.out.2.2]
        · go_wp2_with fail
          refine (dwithin_no _ _ _ (by omega) _).mono ?_
          rintro e w' ⟨rfl, rfl⟩
          have HP : Hid (chanN dd k n m p z o = ⟨#[]⟩ ∧ chanD dd k n m p z o = ⟨#[]⟩ ∧ chanF dd k n m p z o = 1) := chan_out HTF.out (fun h => ho h.2.2)
          clear hp hz ho
          have HR := Lib.hid (res2 (.string ⟨#[]⟩) (.string ⟨#[]⟩) hC2 hbw2 (Nat.le_succ _))
          have g0 := hF2 0
          have g1 := hF2 1
          have r0 : w2.cell? ⟨w.heap.size + 1, 0, none⟩ = some (.string ⟨#[]⟩) := hC2.2 0
          have r1 : w2.cell? ⟨w.heap.size + 1, 1, none⟩ = some (.string ⟨#[]⟩) := hC2.2 1
          obtain ⟨hbF, z0, z1⟩ := id HR.out
          clear hbF
          go_wp2
          refine bodyPost_ret (v := .tuple #[.agg #[.string ⟨#[]⟩, .string ⟨#[]⟩], .int .i64 (1)]) (by simp [results, Try.results9, go_sem, z0, z1]) rfl ⟨?_, HR.out.1⟩
          rw [HP.out.1, HP.out.2.1, HP.out.2.2]
      · go_wp2_with fail
        refine (dwithin_no _ _ _ (by omega) _).mono ?_
        rintro e w' ⟨rfl, rfl⟩
        have HP : Hid (chanN dd k n m p z o = ⟨#[]⟩ ∧ chanD dd k n m p z o = ⟨#[]⟩ ∧ chanF dd k n m p z o = 1) := chan_out HTF.out (fun h => hz h.2.1)
        clear hp hz
        have HR := Lib.hid (res2 (.string ⟨#[]⟩) (.string ⟨#[]⟩) hC2 hbw2 (Nat.le_succ _))
        have g0 := hF2 0
        have g1 := hF2 1
        have r0 : w2.cell? ⟨w.heap.size + 1, 0, none⟩ = some (.string ⟨#[]⟩) := hC2.2 0
        have r1 : w2.cell? ⟨w.heap.size + 1, 1, none⟩ = some (.string ⟨#[]⟩) := hC2.2 1
        obtain ⟨hbF, z0, z1⟩ := id HR.out
        clear hbF
        go_wp2
        refine bodyPost_ret (v := .tuple #[.agg #[.string ⟨#[]⟩, .string ⟨#[]⟩], .int .i64 (1)]) (by simp [results, Try.results9, go_sem, z0, z1]) rfl ⟨?_, HR.out.1⟩
        rw [HP.out.1, HP.out.2.1, HP.out.2.2]
    · go_wp2_with fail
      refine (dwithin_no _ _ _ (by omega) _).mono ?_
      rintro e w' ⟨rfl, rfl⟩
      have HP : Hid (chanN dd k n m p z o = ⟨#[]⟩ ∧ chanD dd k n m p z o = ⟨#[]⟩ ∧ chanF dd k n m p z o = 1) := chan_out HTF.out (fun h => hp h.1)
      clear hp
      have HR := Lib.hid (res2 (.string ⟨#[]⟩) (.string ⟨#[]⟩) hC2 hbw2 (Nat.le_succ _))
      have g0 := hF2 0
      have g1 := hF2 1
      have r0 : w2.cell? ⟨w.heap.size + 1, 0, none⟩ = some (.string ⟨#[]⟩) := hC2.2 0
      have r1 : w2.cell? ⟨w.heap.size + 1, 1, none⟩ = some (.string ⟨#[]⟩) := hC2.2 1
      obtain ⟨hbF, z0, z1⟩ := id HR.out
      clear hbF
      go_wp2
      refine bodyPost_ret (v := .tuple #[.agg #[.string ⟨#[]⟩, .string ⟨#[]⟩], .int .i64 (1)]) (by simp [results, Try.results9, go_sem, z0, z1]) rfl ⟨?_, HR.out.1⟩
      rw [HP.out.1, HP.out.2.1, HP.out.2.2]
  · have hne : (testF d k n m != 0) = true := by simp [htf]
    have HP : Hid (chanN d k n m p z o = ⟨#[]⟩ ∧ chanD d k n m p z o = ⟨#[]⟩ ∧ chanF d k n m p z o = testF d k n m) := by
      have : chanN d k n m p z o = ⟨#[]⟩ ∧ chanD d k n m p z o = ⟨#[]⟩ ∧ chanF d k n m p z o = testF d k n m := by
        unfold chanN chanD chanF
        rw [if_pos htf, if_pos htf, if_pos htf]
        exact ⟨rfl, rfl, rfl⟩
      exact this
    clear htf HT
    have HR := Lib.hid (res2 (.string ⟨#[]⟩) (.string ⟨#[]⟩) hC2 hbw2 (Nat.le_succ _))
    have g0 := hF2 0
    have g1 := hF2 1
    have r0 : w2.cell? ⟨w.heap.size + 1, 0, none⟩ = some (.string ⟨#[]⟩) := hC2.2 0
    have r1 : w2.cell? ⟨w.heap.size + 1, 1, none⟩ = some (.string ⟨#[]⟩) := hC2.2 1
    obtain ⟨hbF, z0, z1⟩ := id HR.out
    clear hbF
    go_wp2
    refine bodyPost_ret (v := .tuple #[.agg #[.string ⟨#[]⟩, .string ⟨#[]⟩], .int .i64 (testF d k n m)]) (by simp [results, Try.results9, go_sem, z0, z1]) rfl ⟨?_, HR.out.1⟩
    rw [HP.out.1, HP.out.2.1, HP.out.2.2]
end Ch
end Go.Proofs.Ytkinapdfmgfdfaa
namespace Go.Proofs.Ytkinapdfmgfdfaa
namespace Ch
open Nm
/-- the direction, the arms exchanged -/
def turnD (d : Int) : Int := if d = 1 then 2 else if d = 2 then 1 else d
theorem testF_turn (d k : Int) (n m : ByteArray) : testF (turnD d) k n m = testF d k n m := by
  unfold testF turnD
  by_cases h1 : d = 1
  · subst h1; simp
  · by_cases h2 : d = 2
    · subst h2; simp
    · rw [if_neg h1, if_neg h2]
theorem evQ_turn (d : Int) (bets u v : Nat) (h1 : 1 ≤ d) (h3 : d ≤ 3) : evQ (turnD d) bets v u = evQ d bets u v := by
  obtain rfl | rfl | rfl : d = 1 ∨ d = 2 ∨ d = 3 := by omega
  · simp [turnD, evQ, evSum, evDen, evParts, Nat.add_comm]
  · simp [turnD, evQ, evSum, evDen, evParts, Nat.add_comm]
  · simp [turnD, evQ, evSum, evDen, evParts, Nat.add_comm]
theorem chQ_turn (d : Int) (bets : Nat) (q : Rat) (n z o k : Nat) (h1 : 1 ≤ d) (h3 : d ≤ 3) : chQ (turnD d) bets q n o z k = chQ d bets q n z o k := by
  unfold chQ
  have e1 : upN o z = downN z o := rfl
  have e2 : downN o z = upN z o := rfl
  have e3 : evenN o z = evenN z o := by unfold evenN; rw [e1, e2]; omega
  rw [e1, e2, e3]
  refine (ch_swp (fun a => ?_) k).2
  unfold decP decB
  rw [show evQ (turnD d) bets (swp a).1 (swp a).2 = evQ d bets a.1 a.2 from evQ_turn d bets a.1 a.2 h1 h3]
theorem testF_ok {d k : Int} {n m : ByteArray} (h : testF d k n m = 0) : 1 ≤ d ∧ d ≤ 3 := by
  unfold testF at h
  by_cases hd : 1 ≤ d ∧ d ≤ 3
  · exact hd
  · rw [if_pos hd] at h; cases h
theorem chR_turn (p z o : Int) : chR p o z ↔ chR p z o := by unfold chR; constructor <;> (rintro ⟨h1, h2, h3⟩; exact ⟨h1, h3, h2⟩)
theorem chan_turn (d k : Int) (n m : ByteArray) (p z o : Int) : chanN (turnD d) k n m p o z = chanN d k n m p z o ∧ chanD (turnD d) k n m p o z = chanD d k n m p z o ∧ chanF (turnD d) k n m p o z = chanF d k n m p z o := by
  unfold chanN chanD chanF
  rw [testF_turn]
  by_cases h : testF d k n m = 0
  · have hd := testF_ok h
    have e : chT (turnD d) k n m p o z = chT d k n m p z o := chQ_turn d _ _ _ _ _ _ hd.1 hd.2
    simp only [h, ne_eq, not_true_eq_false, if_false, e, chR_turn, and_self]
  · simp only [ne_eq, h, not_false_eq_true, if_true, and_self]
end Ch
end Go.Proofs.Ytkinapdfmgfdfaa
