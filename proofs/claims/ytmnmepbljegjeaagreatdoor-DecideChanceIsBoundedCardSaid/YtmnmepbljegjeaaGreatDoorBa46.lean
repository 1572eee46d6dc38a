/- Chance of package decide. Plain: the chances of a test are bounded by its miss, and grow with the pairs. -/
import Derived.Test.YtmnmepbljegjeaaGreatDoorBa45
import Derived.Test.YtmnmepbljegjeaaGreatDoorBa33
import Derived.Test.YtmnmepbljegjeaaGreatDoorBa36
import Derived.Test.YtmnmepbljegjeaaGreatDoorBa69
import Derived.Test.YtmnmepbljegjeaaGreatDoorBa35
import Derived.Test.YtmnmepbljegjeaaGreatDoorBa38
namespace Go.Proofs.YtmnmepbljegjeaaGreatDoor
open Go.RowKit
namespace Ch
open _root_.Go.Proofs.YtmnmepbljegjeaaGreatDoor.Nm
theorem res2 {w0 w : World} {b : Nat} {x0 x1 : Value} (u0 u1 : Value) (hC : Box w b #[x0, x1]) (hb : Below w0.heap.size w0 w) (hle : w0.heap.size ≤ b) :
    Below w0.heap.size w0 ((w.setCell ⟨b, 0, none⟩ u0).setCell ⟨b, 1, none⟩ u1) ∧ ((w.setCell ⟨b, 0, none⟩ u0).setCell ⟨b, 1, none⟩ u1).cell? ⟨b, 0, none⟩ = some u0 ∧ ((w.setCell ⟨b, 0, none⟩ u0).setCell ⟨b, 1, none⟩ u1).cell? ⟨b, 1, none⟩ = some u1 := by
  have h := box2_1 (box2_0 hC u0) u1
  exact ⟨(hb.setCell hle _).setCell hle _, h.2 0, h.2 1⟩
/-- the arguments are in their ranges -/
def chR (p z o : Int) : Prop := (0 ≤ p ∧ p ≤ 8) ∧ (0 ≤ z ∧ z ≤ 1000) ∧ (0 ≤ o ∧ o ≤ 1000)
instance (p z o : Int) : Decidable (chR p z o) := by unfold chR; exact inferInstance
def chT (d k : Int) (n m : ByteArray) (p z o : Int) : Rat := chQ d k.toNat (rQ n m)⁻¹ p.toNat z.toNat o.toNat p.toNat
def chanF (d k : Int) (n m : ByteArray) (p z o : Int) : Int := if testF d k n m ≠ 0 then testF d k n m else if chR p z o then outF (chT d k n m p z o) else 1
def chanN (d k : Int) (n m : ByteArray) (p z o : Int) : ByteArray := if testF d k n m ≠ 0 then ⟨#[]⟩ else if chR p z o then outN (chT d k n m p z o) else ⟨#[]⟩
def chanD (d k : Int) (n m : ByteArray) (p z o : Int) : ByteArray := if testF d k n m ≠ 0 then ⟨#[]⟩ else if chR p z o then outD (chT d k n m p z o) else ⟨#[]⟩
def ChanPost (w : World) (d k : Int) (n m : ByteArray) (p z o : Int) (e : Ending) (w' : World) : Prop :=
  e = .returned (.tuple #[.agg #[.string (chanN d k n m p z o), .string (chanD d k n m p z o)], .int .i64 (chanF d k n m p z o)]) ∧ Below w.heap.size w w'
theorem chQ_sz (d : Int) (bets : Nat) (q : Rat) {n z o k : Nat} (hn : n ≤ 8) (hk : k ≤ 8) (hz : z ≤ 1000) (ho : o ≤ 1000) : Sz (chQ d bets q n z o k) := by
  have h := even_int hz ho
  have h3 : evenN z o ≤ 1000000 := by unfold evenN; omega
  exact Fit.sz (by omega) (ch_fit (many_fit (by omega)) (many_fit (by omega)) (many_fit h3) hn k).2
theorem chan_out {d k : Int} {n m : ByteArray} {p z o : Int} (h : testF d k n m = 0) (hr : ¬ chR p z o) : chanN d k n m p z o = ⟨#[]⟩ ∧ chanD d k n m p z o = ⟨#[]⟩ ∧ chanF d k n m p z o = 1 := by
  unfold chanN chanD chanF
  rw [if_neg (by omega), if_neg hr, if_neg (by omega), if_neg hr, if_neg (by omega), if_neg hr]
  exact ⟨rfl, rfl, rfl⟩
set_option maxRecDepth 100000 in
set_option maxHeartbeats 16000000 in
theorem chance_at (d k : Int) (n m : ByteArray) (hn : n.size ≤ maxLen) (hm : m.size ≤ maxLen) (p z o : Int) (w : World) : Calls Tryz.prog 50 #[.agg #[.int .i64 d, .int .i64 k, .string n, .string m], .int .i64 p, .int .i64 z, .int .i64 o] w (ChanPost w d k n m p z o) := by
  go_enter Tryz.func50, Tryz.ntmps50
  go_upto_region 1 with (fail)
  refine wp_box2r fun w0 hsz hbw0 hA0 hC0 hF0 => ?_
  have t0 : w0.cell? ⟨w.heap.size, 0, none⟩ = some (.int .i64 d) := hA0.2 0
  have t1 : w0.cell? ⟨w.heap.size, 1, none⟩ = some (.int .i64 k) := hA0.2 1
  have t2 : w0.cell? ⟨w.heap.size, 2, none⟩ = some (.string n) := hA0.2 2
  have t3 : w0.cell? ⟨w.heap.size, 3, none⟩ = some (.string m) := hA0.2 3
  clear hsz
  go_wp2_with fail
  refine (readTest_at d k n m hn hm _).mono ?_
  rintro e w1 ⟨dd, kk, b, a1, n1, c1, a2, n2, c2, rfl, hbt, hb1⟩
  have HT := Lib.hid hbt
  have hC1 := hC0.ext hb1
  have hF1 := hF0.ext hC0 hb1
  have hbw1 := ext_trans hbw0 hb1
  clear hbt t0 t1 t2 t3 hA0 hC0 hF0 hbw0 hb1
  go_upto_region 2 with (fail)
  refine wp_box1 fun w2 hsz2 hb2 hB2 => ?_
  clear hsz2
  have hC2 := hC1.ext hb2
  have hF2 := hF1.ext hC1 hb2
  have hbw2 := ext_trans hbw1 hb2
  by_cases htf : testF d k n m = 0
  · have hne : (testF d k n m != 0) = false := by simp [htf]
    have HT2 := Lib.hid (HT.out htf)
    have HTF := Lib.hid htf
    clear HT htf
    obtain ⟨hd1, hk1, hbo⟩ := id HT2.out
    subst hd1
    obtain ⟨kn, HKN⟩ : ∃ kn, Hid (k.toNat = kn) := ⟨_, rfl⟩
    rw [HKN.out] at hk1 hbo
    subst hk1
    have HBO := Lib.hid (hbo.ext hb2)
    clear hbo HT2 hC1 hF1 hbw1 hb2
    by_cases hp : 0 ≤ p ∧ p ≤ 8
    · go_wp2_with fail
      refine (dwithin_yes _ _ _ hp.1 hp.2 _).mono ?_
      rintro e w' ⟨rfl, rfl⟩
      by_cases hz : 0 ≤ z ∧ z ≤ 1000
      · go_wp2_with fail
        refine (dwithin_yes _ _ _ hz.1 hz.2 _).mono ?_
        rintro e w' ⟨rfl, rfl⟩
        by_cases ho : 0 ≤ o ∧ o ≤ 1000
        · go_wp2_with fail
          refine (dwithin_yes _ _ _ ho.1 ho.2 _).mono ?_
          rintro e w' ⟨rfl, rfl⟩
          obtain ⟨pn, rfl⟩ : ∃ x : Nat, p = (x : Int) := ⟨p.toNat, by omega⟩
          obtain ⟨zn, rfl⟩ : ∃ x : Nat, z = (x : Int) := ⟨z.toNat, by omega⟩
          obtain ⟨on, rfl⟩ : ∃ x : Nat, o = (x : Int) := ⟨o.toNat, by omega⟩
          have hpn : pn ≤ 8 := by omega
          have hzn : zn ≤ 1000 := by omega
          have hon : on ≤ 1000 := by omega
          obtain ⟨Q, HQ⟩ : ∃ Q, Hid (chQ dd kn (rQ n m)⁻¹ pn zn on pn = Q) := ⟨_, rfl⟩
          have HP : Hid (chanN dd k n m pn zn on = outN Q ∧ chanD dd k n m pn zn on = outD Q ∧ chanF dd k n m pn zn on = outF Q) := by
            have hc : chR (pn : Int) (zn : Int) (on : Int) := ⟨hp, hz, ho⟩
            have h0 := HTF.out
            have e : chT dd k n m pn zn on = Q := by rw [← HQ.out, ← HKN.out]; rfl
            have : chanN dd k n m pn zn on = outN Q ∧ chanD dd k n m pn zn on = outD Q ∧ chanF dd k n m pn zn on = outF Q := by
              unfold chanN chanD chanF
              rw [if_neg (by omega), if_pos hc, if_neg (by omega), if_pos hc, if_neg (by omega), if_pos hc, e]
              exact ⟨rfl, rfl, rfl⟩
            exact this
          have HSZ : Hid (Sz Q) := by
            have : Sz Q := by rw [← HQ.out]; exact chQ_sz _ _ _ hpn hpn hzn hon
            exact this
          clear hp hz ho
          have y0 : w2.cell? ⟨w1.heap.size, 0, none⟩ = some (.int .i64 dd) := hB2.2 0
          have y1 : w2.cell? ⟨w1.heap.size, 1, none⟩ = some (.int .i64 (kn : Int)) := hB2.2 1
          have y2 : w2.cell? ⟨w1.heap.size, 2, none⟩ = some (.bool b) := hB2.2 2
          have y3 : w2.cell? ⟨w1.heap.size, 3, none⟩ = some (.slice a1 n1 c1) := hB2.2 3
          have y4 : w2.cell? ⟨w1.heap.size, 4, none⟩ = some (.slice a2 n2 c2) := hB2.2 4
          go_wp2_with fail
          refine (chances_at dd kn (rQ n m)⁻¹ b a1 n1 c1 a2 n2 c2 _ HBO.out pn zn on hpn hzn hon).mono ?_
          rintro e w3 ⟨a, cap, ts, rfl, hsl, hlen, hts, hb3⟩
          have hC3 := hC2.ext hb3
          have hF3 := hF2.ext hC2 hb3
          have hbw3 := ext_trans hbw2 hb3
          clear y0 y1 y2 y3 y4 hB2 hC2 hF2 hbw2 hb3
          have hlt : pn < ts.length := by omega
          have hgk := List.getElem?_eq_getElem hlt
          generalize ts[pn] = t at hgk
          have hxt := hts pn t hgk
          rw [HQ.out] at hxt
          obtain ⟨b', o', rfl, hcs⟩ := hsl.elem (fun _ => rfl) (by omega : 0 < 3) hgk
          have e0 := hcs 0 _ rfl
          have e1 := hcs 1 _ rfl
          have e2 := hcs 2 _ rfl
          rw [Nat.add_zero] at e0
          have hi0 : (0 : Int) ≤ (pn : Int) := Int.natCast_nonneg _
          have hi1 : (pn : Int) < ((pn + 1 : Nat) : Int) := by omega
          have HX := Lib.hid hxt
          clear hcs hgk hts hsl hlen hlt hxt
          go_wp2_with fail
          refine (ratio_at Q _ _ HX.out HSZ.out.1 HSZ.out.2).mono ?_
          rintro e w4 ⟨rfl, hb4⟩
          have hC4 := hC3.ext hb4
          have hF4 := hF3.ext hC3 hb4
          have hbw4 := ext_trans hbw3 hb4
          clear e0 e1 e2 hC3 hF3 hbw3 hb4
          have HR := Lib.hid (res2 (.string (outN Q)) (.string (outD Q)) hC4 hbw4 (Nat.le_succ _))
          have g0 := hF4 0
          have g1 := hF4 1
          have r0 : w4.cell? ⟨w.heap.size + 1, 0, none⟩ = some (.string ⟨#[]⟩) := hC4.2 0
          have r1 : w4.cell? ⟨w.heap.size + 1, 1, none⟩ = some (.string ⟨#[]⟩) := hC4.2 1
          obtain ⟨hbF, z0, z1⟩ := id HR.out
          clear hbF
          go_wp2
          refine bodyPost_ret (v := .tuple #[.agg #[.string (outN Q), .string (outD Q)], .int .i64 (outF Q)]) (by simp [results, Tryz.results50, go_sem, z0, z1]) rfl ⟨?_, HR.out.1⟩
          rw [HP.out.1, HP.out.2.1, HP.out.2.2]
        · go_wp2_with fail
          refine (dwithin_no _ _ _ (by omega) _).mono ?_
          rintro e w' ⟨rfl, rfl⟩
          have HP : Hid (chanN dd k n m p z o = ⟨#[]⟩ ∧ chanD dd k n m p z o = ⟨#[]⟩ ∧ chanF dd k n m p z o = 1) := chan_out HTF.out (fun h => ho h.2.2)
          clear hp hz ho
          have HR := Lib.hid (res2 (.string ⟨#[]⟩) (.string ⟨#[]⟩) hC2 hbw2 (Nat.le_succ _))
          have g0 := hF2 0
          have g1 := hF2 1
          have r0 : w2.cell? ⟨w.heap.size + 1, 0, none⟩ = some (.string ⟨#[]⟩) := hC2.2 0
          have r1 : w2.cell? ⟨w.heap.size + 1, 1, none⟩ = some (.string ⟨#[]⟩) := hC2.2 1
          obtain ⟨hbF, z0, z1⟩ := id HR.out
          clear hbF
          go_wp2
          refine bodyPost_ret (v := .tuple #[.agg #[.string ⟨#[]⟩, .string ⟨#[]⟩], .int .i64 (1)]) (by simp [results, Tryz.results50, go_sem, z0, z1]) rfl ⟨?_, HR.out.1⟩
          rw [HP.out.1, HP.out.2.1, HP.out.2.2]
      · go_wp2_with fail
        refine (dwithin_no _ _ _ (by omega) _).mono ?_
        rintro e w' ⟨rfl, rfl⟩
        have HP : Hid (chanN dd k n m p z o = ⟨#[]⟩ ∧ chanD dd k n m p z o = ⟨#[]⟩ ∧ chanF dd k n m p z o = 1) := chan_out HTF.out (fun h => hz h.2.1)
        clear hp hz
        have HR := Lib.hid (res2 (.string ⟨#[]⟩) (.string ⟨#[]⟩) hC2 hbw2 (Nat.le_succ _))
        have g0 := hF2 0
        have g1 := hF2 1
        have r0 : w2.cell? ⟨w.heap.size + 1, 0, none⟩ = some (.string ⟨#[]⟩) := hC2.2 0
        have r1 : w2.cell? ⟨w.heap.size + 1, 1, none⟩ = some (.string ⟨#[]⟩) := hC2.2 1
        obtain ⟨hbF, z0, z1⟩ := id HR.out
        clear hbF
        go_wp2
        refine bodyPost_ret (v := .tuple #[.agg #[.string ⟨#[]⟩, .string ⟨#[]⟩], .int .i64 (1)]) (by simp [results, Tryz.results50, go_sem, z0, z1]) rfl ⟨?_, HR.out.1⟩
        rw [HP.out.1, HP.out.2.1, HP.out.2.2]
    · go_wp2_with fail
      refine (dwithin_no _ _ _ (by omega) _).mono ?_
      rintro e w' ⟨rfl, rfl⟩
      have HP : Hid (chanN dd k n m p z o = ⟨#[]⟩ ∧ chanD dd k n m p z o = ⟨#[]⟩ ∧ chanF dd k n m p z o = 1) := chan_out HTF.out (fun h => hp h.1)
      clear hp
      have HR := Lib.hid (res2 (.string ⟨#[]⟩) (.string ⟨#[]⟩) hC2 hbw2 (Nat.le_succ _))
      have g0 := hF2 0
      have g1 := hF2 1
      have r0 : w2.cell? ⟨w.heap.size + 1, 0, none⟩ = some (.string ⟨#[]⟩) := hC2.2 0
      have r1 : w2.cell? ⟨w.heap.size + 1, 1, none⟩ = some (.string ⟨#[]⟩) := hC2.2 1
      obtain ⟨hbF, z0, z1⟩ := id HR.out
      clear hbF
      go_wp2
      refine bodyPost_ret (v := .tuple #[.agg #[.string ⟨#[]⟩, .string ⟨#[]⟩], .int .i64 (1)]) (by simp [results, Tryz.results50, go_sem, z0, z1]) rfl ⟨?_, HR.out.1⟩
      rw [HP.out.1, HP.out.2.1, HP.out.2.2]
  · have hne : (testF d k n m != 0) = true := by simp [htf]
    have HP : Hid (chanN d k n m p z o = ⟨#[]⟩ ∧ chanD d k n m p z o = ⟨#[]⟩ ∧ chanF d k n m p z o = testF d k n m) := by
      have : chanN d k n m p z o = ⟨#[]⟩ ∧ chanD d k n m p z o = ⟨#[]⟩ ∧ chanF d k n m p z o = testF d k n m := by
        unfold chanN chanD chanF
        rw [if_pos htf, if_pos htf, if_pos htf]
        exact ⟨rfl, rfl, rfl⟩
      exact this
    clear htf HT
    have HR := Lib.hid (res2 (.string ⟨#[]⟩) (.string ⟨#[]⟩) hC2 hbw2 (Nat.le_succ _))
    have g0 := hF2 0
    have g1 := hF2 1
    have r0 : w2.cell? ⟨w.heap.size + 1, 0, none⟩ = some (.string ⟨#[]⟩) := hC2.2 0
    have r1 : w2.cell? ⟨w.heap.size + 1, 1, none⟩ = some (.string ⟨#[]⟩) := hC2.2 1
    obtain ⟨hbF, z0, z1⟩ := id HR.out
    clear hbF
    go_wp2
    refine bodyPost_ret (v := .tuple #[.agg #[.string ⟨#[]⟩, .string ⟨#[]⟩], .int .i64 (testF d k n m)]) (by simp [results, Tryz.results50, go_sem, z0, z1]) rfl ⟨?_, HR.out.1⟩
    rw [HP.out.1, HP.out.2.1, HP.out.2.2]
end Ch
end Go.Proofs.YtmnmepbljegjeaaGreatDoor
namespace Go.Proofs.YtmnmepbljegjeaaGreatDoor
namespace Ch
open _root_.Go.Proofs.YtmnmepbljegjeaaGreatDoor.Nm
theorem unit_is : unitQ * 1000000 = 1 := by
  unfold unitQ
  have h : ((1000000 : Int) : Rat) = 1000000 := rfl
  rw [h]; grind
theorem unit_pos : 0 ≤ unitQ := by
  have h : (0 : Rat) < ((1000000 : Int) : Rat) := by decide
  exact Rat.le_of_lt (Rat.inv_pos.2 h)
theorem many_nonneg (n : Nat) : 0 ≤ many n := by
  unfold many
  rw [Rat.intCast_natCast]
  exact Rat.mul_nonneg (natCast_nonneg n) unit_pos
theorem many_add (a b : Nat) : many a + many b = many (a + b) := by
  unfold many
  rw [Rat.intCast_natCast, Rat.intCast_natCast, Rat.intCast_natCast, Rat.natCast_add]; grind
theorem many_all : many 1000000 = 1 := by
  unfold many
  have h : (((1000000 : Nat) : Int) : Rat) = 1000000 := rfl
  rw [h]
  have := unit_is
  grind
theorem many_le {a b : Nat} (h : a ≤ b) : many a ≤ many b := by
  obtain ⟨c, rfl⟩ : ∃ c, b = a + c := ⟨b - a, by omega⟩
  rw [← many_add]
  have := many_nonneg c
  grind
theorem many_sum {z o : Nat} (hz : z ≤ 1000) (ho : o ≤ 1000) : many (upN z o) + many (downN z o) + many (evenN z o) = 1 := by
  have h := even_int hz ho
  rw [many_add, many_add, ← many_all]
  congr 1
  unfold evenN; omega
theorem decP_ge {d : Int} (d1 : 1 ≤ d) (d3 : d ≤ 3) {bets : Nat} (hb : 1 ≤ bets) {Q : Rat} (a : Pt) (h : decP d bets Q a = true) : Q ≤ evR d bets a.1 a.2 := by
  unfold decP decB at h
  rw [evQ_real d d1 d3 bets hb] at h
  exact cmpQ_ge.1 (of_decide_eq_true h)
/-- the chance is at most the miss, where it does not lean the other way -/
theorem chQ_le {d : Int} (d1 : 1 ≤ d) (d3 : d ≤ 3) {bets : Nat} (hb : 1 ≤ bets) {q : Rat} (h0 : 0 < q) {n z o k : Nat} (hz : z ≤ 1000) (ho : o ≤ 1000) (hl : leans d (many (upN z o)) (many (downN z o))) : chQ d bets q⁻¹ n z o k ≤ q := by
  have h := chance_le (dec := decP d bets q⁻¹) (n := n) (many_nonneg (upN z o)) (many_nonneg (downN z o)) (many_nonneg (evenN z o)) (ev := fun a => evR d bets a.1 a.2) (fun a => evR_nonneg d bets hb a.1 a.2) (Q := q⁻¹) (fun a ha => decP_ge d1 d3 hb a ha) (evR_zero d bets hb) (fun a => evR_step d d1 d3 bets hb a.1 a.2 _ _ _ (many_sum hz ho) hl) k
  have h2 := Rat.mul_le_mul_of_nonneg_right h (Rat.le_of_lt h0)
  have hne := ne_of_pos h0
  have e : chS (decP d bets q⁻¹) (many (upN z o)) (many (downN z o)) (many (evenN z o)) n k * q⁻¹ * q = chS (decP d bets q⁻¹) (many (upN z o)) (many (downN z o)) (many (evenN z o)) n k := by grind
  rw [e, Rat.one_mul] at h2
  exact h2
theorem chQ_more (d : Int) (bets : Nat) (Q : Rat) (n z o : Nat) : chQ d bets Q n z o n ≤ chQ d bets Q (n + 1) z o (n + 1) :=
  chance_more (dec := decP d bets Q) n (many_nonneg (upN z o)) (many_nonneg (downN z o)) (many_nonneg (evenN z o))
theorem leans_same (d : Int) (z : Nat) : leans d (many (upN z z)) (many (downN z z)) := Or.inr (Or.inr rfl)
theorem up_le {z o : Nat} (h : o ≤ z) (hz : z ≤ 1000) : upN z o ≤ downN z o := by
  unfold upN downN
  have h1 : o * (1000 - z) ≤ z * (1000 - z) := Nat.mul_le_mul_right _ h
  have h2 : z * (1000 - z) ≤ z * (1000 - o) := Nat.mul_le_mul_left _ (by omega)
  omega
theorem leans_more {z o : Nat} (h : o ≤ z) (hz : z ≤ 1000) : leans 1 (many (upN z o)) (many (downN z o)) := Or.inl ⟨rfl, many_le (up_le h hz)⟩
theorem leans_less {z o : Nat} (h : z ≤ o) (ho : o ≤ 1000) : leans 2 (many (upN z o)) (many (downN z o)) := Or.inr (Or.inl ⟨rfl, many_le (up_le (z := o) (o := z) h ho)⟩)
theorem chQ_fits (d : Int) (bets : Nat) (q : Rat) {n z o k : Nat} (hn : n ≤ 8) (hk : k ≤ 8) (hz : z ≤ 1000) (ho : o ≤ 1000) : Fits (chQ d bets q n z o k) := by
  have h := even_int hz ho
  have h3 : evenN z o ≤ 1000000 := by unfold evenN; omega
  have hf := (ch_fit (dec := decP d bets q) (many_fit (n := upN z o) (by omega)) (many_fit (n := downN z o) (by omega)) (many_fit h3) hn k).2
  obtain ⟨b1, b2⟩ := hf.bound
  have e1 : 1000000 ^ k ≤ 10 ^ 48 := Nat.le_trans (Nat.pow_le_pow_right (by decide) hk) (by decide)
  have e2 : BB ^ k ≤ 10 ^ 90 := Nat.le_trans (Nat.pow_le_pow_right (by decide) hk) (by decide)
  exact Ln.fits (a := 90) (b := 48) ⟨Nat.le_trans b1 e2, Nat.le_trans b2 e1⟩ (by omega) (by omega)
/-- what Chance gives for right arguments -/
theorem chan_right {d k : Int} {n m : ByteArray} {p z o : Int} (h : chanF d k n m p z o = 0) : testF d k n m = 0 ∧ chR p z o := by
  unfold chanF at h
  by_cases ht : testF d k n m = 0
  · refine ⟨ht, ?_⟩
    rw [if_neg (fun h' => h' ht)] at h
    by_cases hr : chR p z o
    · exact hr
    · rw [if_neg hr] at h; cases h
  · rw [if_pos ht] at h; exact absurd h ht
theorem chan_wrong {d k : Int} {n m : ByteArray} {p z o : Int} (h : chanF d k n m p z o ≠ 0) (hz : chR p z o → Fits (chT d k n m p z o)) : chanN d k n m p z o = ⟨#[]⟩ ∧ chanD d k n m p z o = ⟨#[]⟩ := by
  unfold chanF at h
  unfold chanN chanD
  by_cases ht : testF d k n m = 0
  · simp only [ht, ne_eq, not_true_eq_false, if_false] at h ⊢
    by_cases hr : chR p z o
    · rw [if_pos hr, (out_fits (hz hr)).2.2] at h; exact absurd rfl h
    · simp only [hr, if_false, and_self]
  · simp only [ht, ne_eq, not_false_eq_true, if_true, and_self]
theorem chT_fits {d k : Int} {n m : ByteArray} {p z o : Int} (h : chR p z o) : Fits (chT d k n m p z o) := by
  unfold chR at h
  exact chQ_fits _ _ _ (by omega) (by omega) (by omega) (by omega)
theorem chan_is {d : Int} {kn : Nat} {q : Rat} (hq : Fits q) (ht : testF d (kn : Int) (showN q) (showD q) = 0) {p z o : Nat} (hp : p ≤ 8) (hz : z ≤ 1000) (ho : o ≤ 1000) :
    chanN d (kn : Int) (showN q) (showD q) (p : Int) (z : Int) (o : Int) = showN (chQ d kn q⁻¹ p z o p) ∧ chanD d (kn : Int) (showN q) (showD q) (p : Int) (z : Int) (o : Int) = showD (chQ d kn q⁻¹ p z o p) ∧ chanF d (kn : Int) (showN q) (showD q) (p : Int) (z : Int) (o : Int) = 0 := by
  have hr : chR (p : Int) (z : Int) (o : Int) := by unfold chR; omega
  have e : chT d (kn : Int) (showN q) (showD q) (p : Int) (z : Int) (o : Int) = chQ d kn q⁻¹ p z o p := by unfold chT; rw [(back hq).2]; rfl
  have hf := out_fits (chT_fits (d := d) (k := (kn : Int)) (n := showN q) (m := showD q) hr)
  rw [e] at hf
  unfold chanN chanD chanF
  simp only [ht, ne_eq, not_true_eq_false, if_false, hr, if_true, e]
  exact hf
end Ch
end Go.Proofs.YtmnmepbljegjeaaGreatDoor
