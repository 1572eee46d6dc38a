/- Verdict of package decide: the walk. -/
import Derived.Test.YtmnmepbljegjeaaGreatDoorBa64
namespace Go.Proofs.YtmnmepbljegjeaaGreatDoor
open Go.RowKit
namespace Nm
theorem verA_no {P K : Int} {n m : ByteArray} {gs : List RT} {goal : List Tri} {guards : List (List Tri)} {f : Int} (h : verF P K n m gs goal guards = f) (hf : f ≠ 0) : verA P K n m gs goal guards = (0, 0) := by
  unfold verA; rw [if_neg (by rw [h]; exact hf)]
theorem ret_three {a b c a' b' c' : Int} (h1 : a = a') (h2 : b = b') (h3 : c = c') : Ending.returned (.tuple #[.int .i64 a, .int .i64 b, .int .i64 c]) = .returned (.tuple #[.int .i64 a', .int .i64 b', .int .i64 c']) := by rw [h1, h2, h3]
theorem take_ics (z : List Int) (n : Nat) : (ics z).take n = ics (z.take n) := by simp [ics, List.map_take]
theorem map_take_succ {L : List (List Tri)} {k : Nat} {l : List Tri} (h : L[k]? = some l) : (L.take (k + 1)).map pairZ = (L.take k).map pairZ ++ [pairZ l] := by
  obtain ⟨hk, rfl⟩ := List.getElem?_eq_some_iff.1 h
  rw [List.take_succ_eq_append_getElem hk, List.map_append]; rfl
theorem decided_is (d : Int) (bets : Nat) (q : Rat) (b : Bool) (a1 : Option Addr) (n1 c1 : Nat) (a2 : Option Addr) (n2 c2 : Nat) (l : List Int) (N r : Nat) (hN : l.length = N) (hr : decAt (decB d bets q) 0 0 0 l = r) (a : Option Addr) (c : Nat) (w : World) (hB : Bett w d bets q b a1 n1 c1 a2 n2 c2) (hs : Sl w (.slice a N c) N (ics l)) (hl : N ≤ 60) :
    Calls Tryz.prog 117 #[.agg (betA d bets b a1 n1 c1 a2 n2 c2), .slice a N c] w (FPost w r) := by
  subst hN hr; exact decided_at d bets q b a1 n1 c1 a2 n2 c2 l a c w hB hs hl
set_option maxRecDepth 100000 in
set_option maxHeartbeats 16000000 in
theorem Verdict_at (P K : Int) (n m : ByteArray) (hn : n.size ≤ maxLen) (hm : m.size ≤ maxLen) (gs : List RT) (hgs : ∀ r ∈ gs, rtOk r) (pa : Option Addr) (pc : Nat) (goal : List Tri) (ga : Option Addr) (gc : Nat) (guards : List (List Tri)) (svs : List SV) (oa : Option Addr) (oc : Nat) (w : World)
    (hs : Sl w (.slice pa gs.length pc) gs.length (gs.flatMap rtL)) (hgo : Sl w (.slice ga goal.length gc) goal.length (goal.flatMap triL)) (hsv : Sl w (.slice oa svs.length oc) svs.length (svs.flatMap svL)) (hrw : RowsOf w triL svs guards) (hsz : svs.length * 24 ≤ 140737488351232) :
    Calls Tryz.prog 65 #[.agg #[Value.int .i64 P, Value.int .i64 K, Value.string n, Value.string m, Value.slice pa gs.length pc], .slice ga goal.length gc, .slice oa svs.length oc] w (VerPost w (verA P K n m gs goal guards).1 (verA P K n m gs goal guards).2 (verF P K n m gs goal guards)) := by
  have HS := Lib.hid hs
  have HGS := Lib.hid hgs
  have HSV := Lib.hid hsv
  have HII := Lib.hid ints_info
  obtain ⟨LL, HLL⟩ : ∃ LL, Hid (LL = goal :: guards) := ⟨_, rfl⟩
  obtain ⟨SL, HSL⟩ : ∃ SL : List SV, Hid (SL = ⟨ga, goal.length, gc⟩ :: svs) := ⟨_, rfl⟩
  have HRW : Hid (RowsOf w triL SL LL) := by
    have h : RowsOf w triL SL LL := by
      rw [HLL.out, HSL.out]
      refine ⟨by simp [hrw.1], fun i sv l h1 h2 => ?_⟩
      cases i with
      | zero => simp at h1 h2; subst h1; subst h2; exact ⟨rfl, hgo⟩
      | succ j => simp at h1 h2; exact hrw.2 j sv l h1 h2
    exact h
  have HSLL : Hid (SL.length = svs.length + 1) := by
    have : SL.length = svs.length + 1 := by rw [HSL.out]; rfl
    exact this
  have HLEN : Hid (svs.length = guards.length) := hrw.1
  have hSLb : SL.length * 24 ≤ 140737488351256 := by have := HSLL.out; omega
  clear hs hgs hsv hrw hgo
  go_enter Tryz.func65, Tryz.ntmps65
  go_upto_region 1 with (fail)
  refine wp_box1 fun w0 hsz0 hbw0 hA0 => ?_
  have t0 : w0.cell? ⟨w.heap.size, 0, none⟩ = some (.int .i64 P) := hA0.2 0
  have t1 : w0.cell? ⟨w.heap.size, 1, none⟩ = some (.int .i64 K) := hA0.2 1
  have t2 : w0.cell? ⟨w.heap.size, 2, none⟩ = some (.string n) := hA0.2 2
  have t3 : w0.cell? ⟨w.heap.size, 3, none⟩ = some (.string m) := hA0.2 3
  have t4 : w0.cell? ⟨w.heap.size, 4, none⟩ = some (.slice pa gs.length pc) := hA0.2 4
  clear hsz0
  go_wp2_with fail
  refine (readPlan_at P K n m hn hm gs HGS.out pa pc _ (HS.out.ext hbw0)).mono ?_
  rintro e w1 ⟨dd, kk, b, a1, n1, c1, a2, n2, c2, a3, n3, c3, bvs, rfl, hx, hb1⟩
  have HX := Lib.hid hx
  have hA1 := hA0.ext hb1
  have hbw1 := ext_trans hbw0 hb1
  clear hx t0 t1 t2 t3 t4 hA0 hbw0 hb1
  go_upto_region 2 with (fail)
  refine wp_box1 fun w2 hsz2 hb2 hB2 => ?_
  have hA2 := hA1.ext hb2
  have hbw2 := ext_trans hbw1 hb2
  have HX2 : Hid (planF P K n m gs = 0 → dd = 1 ∧ kk = (K.toNat : Int) ∧ n3 = gs.length ∧ Bett w2 1 K.toNat (rQ n m)⁻¹ b a1 n1 c1 a2 n2 c2 ∧ Sl w2 (.slice a3 n3 c3) n3 (bvs.flatMap (bvL (K.toNat : Int))) ∧ GuardsOk w2 K.toNat gs bvs) := fun h => by
    obtain ⟨y1, y2, y3, y4, y5, y6, y7⟩ := HX.out h
    exact ⟨y1, y2, y3, y4.ext hb2, y5.ext hb2, y6, fun i bv r k1 k2 => (y7 i bv r k1 k2).ext hb2⟩
  clear HX hA1 hbw1 hb2 hsz2
  by_cases hpf : planF P K n m gs = 0
  · have hne : (planF P K n m gs != 0) = false := by simp [hpf]
    obtain ⟨rfl, hkk, rfl, hbt, hsg, hgk⟩ := HX2.out hpf
    have HPK : Hid (1 ≤ P ∧ P ≤ 60 ∧ 1 ≤ K ∧ K ≤ 5) := by
      have : 1 ≤ P ∧ P ≤ 60 ∧ 1 ≤ K ∧ K ≤ 5 := by
        apply Classical.byContradiction
        intro h
        unfold planF at hpf
        rw [if_pos h] at hpf
        cases hpf
      exact this
    obtain ⟨kn, hkn⟩ : ∃ kn : Nat, K.toNat = kn := ⟨_, rfl⟩
    obtain ⟨pn, hpn⟩ : ∃ pn : Nat, P = (pn : Int) := ⟨P.toNat, by have := HPK.out; omega⟩
    have HKN := Lib.hid hkn
    rw [hkn] at hkk hbt hsg hgk
    subst hkk
    subst hpn
    have HPN : Hid (((pn : Int)).toNat = pn) := Int.toNat_natCast _
    have hp60 : pn ≤ 60 := by have := HPK.out; omega
    have HBT := Lib.hid hbt
    have HSG := Lib.hid hsg
    have HGK := Lib.hid hgk
    have HVF : Hid (verF pn K n m gs goal guards = if pF LL ≠ 0 then pF LL else if guards.length ≠ gs.length then 3 else 0) := by
      have : verF pn K n m gs goal guards = if pF LL ≠ 0 then pF LL else if guards.length ≠ gs.length then 3 else 0 := by unfold verF; rw [if_neg (by simp [hpf]), HLL.out]
      exact this
    have HVA : Hid (verF pn K n m gs goal guards = 0 → verA pn K n m gs goal guards = (verdV (shipN kn n m (pairZ goal) (minN pn (LL.map pairZ))) (stopL kn (minN pn (LL.map pairZ)) 0 gs (guards.map pairZ)) (minN pn (LL.map pairZ)) pn, verdN (shipN kn n m (pairZ goal) (minN pn (LL.map pairZ))) (stopL kn (minN pn (LL.map pairZ)) 0 gs (guards.map pairZ)))) := fun h => by
      unfold verA; rw [if_pos h, HKN.out, HPN.out, HLL.out]
    clear hpf hbt hsg hgk HX2 hkn
    have HCAT : Hid (Calls Tryz.prog 136 #[.slice (some ⟨w2.heap.size + 1, 0, none⟩) 2 2] ((w2.alloc (.cells #[.slice ga goal.length gc] 38)).alloc (.cells #[.slice (some ⟨w2.heap.size, 0, none⟩) 1 1, .slice oa svs.length oc] 80)) (CCCatL.CatFrom w2 SL)) := by
      have h := catL_new w2 ⟨ga, goal.length, gc⟩ oa oc svs (HSV.out.ext hbw2) (by omega)
      rw [← HSL.out] at h
      exact h
    go_wp2_with fail
    refine HCAT.out.mono ?_
    rintro e w3 ⟨al, cl, rfl, hsl, _, hb3⟩
    have HSLR := Lib.hid hsl
    have HB3 := Lib.hid hb3
    obtain ⟨base, HBASE⟩ : ∃ base, Hid (w3.heap.size = base) := ⟨_, rfl⟩
    have HVL : Hid (VL w2 w3 base (.slice none 0 0) 0 [] []) := ⟨hb3, World.ownsRow_nil _ _ _ _, RowQ.nil _ _, ⟨rfl, fun i sv z h => by simp at h⟩, rfl, by rw [HBASE.out]; exact Nat.le_refl _, by rw [← HBASE.out]; exact hb3.size⟩
    clear hsl hb3 HCAT
    go_wp2
    go_loopw [12, 14, 15, 16, 40] (fun v _ _ _ i wr => ∃ (k : Nat) (pvs : List SV) (zs : List (List Int)), k ≤ SL.length ∧ i = .int .i64 k ∧ Hid (pF LL = pF (LL.drop k)) ∧ Hid (zs = (LL.take k).map pairZ) ∧ Hid (Below w3.heap.size w3 wr) ∧ Hid (VL w2 wr base v k pvs zs)) (fun _ _ _ _ i _ => SL.length - (intOf i).toNat)
    case atStart => exact ⟨0, [], [], by omega, rfl, rfl, rfl, Below.refl _ _, HVL⟩
    case round =>
      clear HVL
      obtain ⟨k, pvs, zs, hk, rfl, HK, HZS, HB, HVL⟩ := hrel
      by_cases hlt : k < SL.length
      · have hgk := List.getElem?_eq_getElem hlt
        have hgl : ∃ l, LL[k]? = some l := ⟨_, List.getElem?_eq_getElem (by rw [← HRW.out.1]; exact hlt)⟩
        obtain ⟨l, hll⟩ := hgl
        generalize SL[k] = sv at hgk
        obtain ⟨hsn, hss⟩ := HRW.out.2 k sv l hgk hll
        have HST : Hid (pF LL = if pairF l ≠ 0 then pairF l else pF (LL.drop (k + 1))) := by have := HK.out; rw [pF_step hll] at this; exact this
        have HZ1 := Lib.hid (map_take_succ hll)
        obtain ⟨bl, ol, rfl, hc⟩ := sl_addr (HSLR.out.ext HB.out) (show (SL.flatMap svL)[k]? = some (.slice sv.a sv.n sv.c) by have := flat_get (f := svL) (sz := 1) (fun _ => rfl) SL k sv hgk 0 _ rfl; simpa using this)
        obtain ⟨sa, sn, sc⟩ := sv
        simp only at hsn hss hc
        subst hsn
        have HSS := Lib.hid hss
        clear hgk hll hss HK
        go_wp2_with fail
        refine (decide_Pairs l sa sc _ (HSS.out.ext (ext_trans hbw2 HVL.out.low))).mono ?_
        rintro e w4 ⟨a4, c4, rfl, hs4, hb4⟩
        have HS4 := Lib.hid hs4
        have HV4 := Lib.hid (HVL.out.ext hb4)
        have HB4 := Lib.hid (ext_trans HB.out hb4)
        clear hs4 hb4 hc HVL HB
        by_cases hp : pairF l = 0
        · have hne2 : (pairF l != 0) = false := by simp [hp]
          obtain ⟨e1, e2⟩ := pair_ok hp
          have HN : Hid (pF LL = pF (LL.drop (k + 1))) := by have := HST.out; rw [if_neg (by simp [hp])] at this; exact this
          have HS5 : Hid (Sl w4 (.slice a4 (pairZ l).length c4) (pairZ l).length (ics (pairZ l))) := by have h := HS4.out; rw [e1] at h; exact h
          rw [e1]
          clear hp e1 HST HS4
          have hbs4 := HV4.out.bs
          go_wp2_with (at_builtin; refine wpList_append_q IsSl rfl _ _ 162 rfl base 45 Tryz.underlying162 HII.out rfl (by decide) rfl (HV4.out.ext (ext_alloc _ _)).own rfl (Sl.new w4 #[.slice a4 (pairZ l).length c4] _ 1 1 (by omega) (by decide)) rfl (by intro u hu; simp at hu; subst hu; rfl) (by unfold maxLen; omega) (by omega) (by simp; omega) (HV4.out.ext (ext_alloc _ _)).q (by intro u hu; simp [Value.cells] at hu; subst hu; trivial) (by intro u hu; simp at hu; subst hu; trivial) ?_; intro v7 w7 hown7 hg7 hat7 hq7; have HV7 := Lib.hid ((HV4.out.ext (ext_alloc w4 _)).push ⟨a4, (pairZ l).length, c4⟩ (pairZ l) hg7 hown7 hq7 rfl (HS5.out.ext (ext_alloc _ _))); have HB7 := Lib.hid ((ext_trans HB4.out (ext_alloc w4 _)).grown hg7 (ext_trans HB4.out (ext_alloc w4 _)).size (fun q hq => by have h1 := (HV4.out.own.lt q hq).1; have h2 := HBASE.out; omega)); clear hown7 hg7 hat7 hq7)
          go_roundw
          case rel => exact ⟨k + 1, _, _, by omega, by go_num, HN, by rw [HZ1.out, ← HZS.out]; exact rfl, HB7, HV7⟩
          case measure => simp [intOf]; omega
        · have hne2 : (pairF l != 0) = true := by simp [hp]
          have HFIN : Hid (verF pn K n m gs goal guards = pairF l) := by
            have h1 := HVF.out
            have h2 := HST.out
            rw [if_pos hp] at h2
            rw [h2, if_pos hp] at h1
            exact h1
          have HV0 := Lib.hid (verA_no HFIN.out hp)
          have HBW := Lib.hid HV4.out.low
          clear hp HST HS4
          go_wp2
          go_ret3
          refine ⟨?_, ext_trans hbw2 HBW.out⟩
          rw [HFIN.out, HV0.out]; rfl
      · have hks : k = SL.length := by omega
        subst hks
        have HPF0 : Hid (pF LL = 0) := by
          have h := HK.out
          rw [List.drop_eq_nil_of_le (by rw [← HRW.out.1]; exact Nat.le_refl _)] at h
          exact h
        have HZ : Hid (zs = LL.map pairZ) := by
          have h := HZS.out
          rw [List.take_of_length_le (by rw [← HRW.out.1]; exact Nat.le_refl _)] at h
          exact h
        have HVF2 : Hid (verF pn K n m gs goal guards = if guards.length ≠ gs.length then 3 else 0) := by
          have h := HVF.out
          rw [HPF0.out, if_neg (by simp)] at h
          exact h
        have HBW := Lib.hid HVL.out.low
        clear HK HZS HPF0 HVF
        by_cases hlg : svs.length = gs.length
        · have hneg : ((svs.length : Int) != (gs.length : Int)) = false := by rw [hlg]; simp
          have HFIN0 : Hid (verF pn K n m gs goal guards = 0) := by
            have h := HVF2.out
            rw [if_neg (by rw [← HLEN.out]; exact fun h => h hlg)] at h
            exact h
          have HLG := Lib.hid hlg
          have HANS := Lib.hid (HVA.out HFIN0.out)
          have HZL : Hid (zs = pairZ goal :: guards.map pairZ) := by
            have h := HZ.out
            rw [HLL.out] at h
            exact h
          have HZN : Hid (zs.length = SL.length) := by
            have h : zs.length = SL.length := by rw [HZ.out, List.length_map, HRW.out.1]
            exact h
          have HPVN : Hid (pvs.length = SL.length) := HVL.out.len
          have hS1 : 1 ≤ SL.length := by have := HSLL.out; omega
          clear hlg HVF2 HVA
          obtain ⟨pv0, hp0⟩ : ∃ pv, pvs[0]? = some pv := ⟨_, List.getElem?_eq_getElem (show 0 < pvs.length by rw [HPVN.out]; omega)⟩
          obtain ⟨g, cap, hv12, hc0⟩ := HVL.out.cell hp0
          subst hv12
          obtain ⟨hpn0, hps0⟩ := HVL.out.rows.2 0 _ (pairZ goal) hp0 (by rw [HZL.out]; rfl)
          obtain ⟨p0a, p0n, p0c⟩ := pv0
          simp only at hc0 hpn0 hps0
          subst hpn0
          have HPS0 := Lib.hid hps0
          have hcap0 := sl_caps hps0
          have hA5 := hA2.ext HVL.out.low
          have hB5 := hB2.ext HVL.out.low
          have HBT5 := Lib.hid (HBT.out.ext HVL.out.low)
          have tP : wr.cell? ⟨w.heap.size, 0, none⟩ = some (.int .i64 (pn : Int)) := hA5.2 0
          clear hp0 hps0
          go_wp2
          go_loop [17, 19, 66] (fun x _ i => ∃ (k cur : Nat), k ≤ SL.length ∧ cur ≤ pn ∧ i = .int .i64 k ∧ x = .int .i64 cur ∧ Hid (minN pn zs = minN cur (zs.drop k))) (fun _ _ i => SL.length - (intOf i).toNat)
          case atStart => exact ⟨0, pn, by omega, Nat.le_refl _, rfl, rfl, rfl⟩
          case round =>
            obtain ⟨k, cur, hk, hcp, rfl, rfl, HMK⟩ := hrel
            by_cases hlt : k < SL.length
            · obtain ⟨pv, hpk⟩ : ∃ pv, pvs[k]? = some pv := ⟨_, List.getElem?_eq_getElem (show k < pvs.length by rw [HPVN.out]; exact hlt)⟩
              obtain ⟨z, hzk⟩ : ∃ z, zs[k]? = some z := ⟨_, List.getElem?_eq_getElem (show k < zs.length by rw [HZN.out]; exact hlt)⟩
              obtain ⟨g', cap', hv', hck⟩ := HVL.out.cell hpk
              cases hv'
              obtain ⟨hnk, _⟩ := HVL.out.rows.2 k _ _ hpk hzk
              have HST : Hid (minN pn zs = minN (min cur z.length) (zs.drop (k + 1))) := by have := HMK.out; rw [minN_step hzk] at this; exact this
              obtain ⟨pva, pvn, pvc⟩ := pv
              simp only at hck hnk
              subst hnk
              clear hpk hzk HMK
              by_cases hm2 : z.length < cur
              · have HN : Hid (minN pn zs = minN z.length (zs.drop (k + 1))) := by have := HST.out; rw [Nat.min_eq_right (by omega)] at this; exact this
                have hmi : (z.length : Int) < (cur : Int) := by omega
                have hmq : min (cur : Int) (z.length : Int) = (z.length : Int) := by omega
                clear HST
                go_wp2
                all_goals first | (exfalso; omega) | skip
                go_round
                case rel => exact ⟨k + 1, z.length, by omega, by omega, by go_num, rfl, HN⟩
                case measure => simp [intOf]; omega
              · have HN : Hid (minN pn zs = minN cur (zs.drop (k + 1))) := by have := HST.out; rw [Nat.min_eq_left (by omega)] at this; exact this
                have hmi : (cur : Int) ≤ (z.length : Int) := by omega
                have hmq : min (cur : Int) (z.length : Int) = (cur : Int) := by omega
                clear HST
                go_wp2
                all_goals first | (exfalso; omega) | skip
                go_round
                case rel => exact ⟨k + 1, cur, by omega, by omega, by go_num, rfl, HN⟩
                case measure => simp [intOf]; omega
            · have hks2 : k = SL.length := by omega
              subst hks2
              have HN0 : Hid (minN pn (LL.map pairZ) = cur) := by
                have h := HMK.out
                rw [List.drop_eq_nil_of_le (by rw [HZN.out]; exact Nat.le_refl _), HZ.out] at h
                exact h
              have HLE : Hid (∀ z ∈ zs, cur ≤ z.length) := fun z hz => by
                have h := (minN_le (LL.map pairZ) pn).2 z (by rw [← HZ.out]; exact hz)
                rw [HN0.out] at h; exact h
              have hc0le : cur ≤ (pairZ goal).length := HLE.out _ (by rw [HZL.out]; exact List.mem_cons_self ..)
              have HT0 : Hid (((pairZ goal).take cur).length = cur) := by
                have : ((pairZ goal).take cur).length = cur := by rw [List.length_take]; omega
                exact this
              have HSK0 : Hid (Sl wr (.slice p0a cur p0c) cur (ics ((pairZ goal).take cur))) := by
                have h := sl_take HPS0.out hc0le
                rw [take_ics] at h; exact h
              have hi0 : (0 : Int) ≤ (cur : Int) := Int.natCast_nonneg _
              have hi1 : (cur : Int) ≤ (p0c : Int) := by omega
              have hi2 : (0 : Int) < (SL.length : Int) := by omega
              have hi3 : 0 < SL.length := by omega
              clear HMK tP
              go_wp2_with fail
              obtain ⟨t, HT⟩ : ∃ t, Hid (decAt (decB 1 kn (rQ n m)⁻¹) 0 0 0 ((pairZ goal).take cur) = t) := ⟨_, rfl⟩
              go_region_held3 (SC wr w1.heap.size (betA 1 kn b a1 n1 c1 a2 n2 c2) g 0 (.slice p0a (pairZ goal).length p0c)) (first | exact SC.start hB5 hc0 | exact SC.ext (by with_reducible assumption) (by with_reducible assumption) hB5 | assumption) (first | (go_at_call 117; refine (decided_is 1 kn (rQ n m)⁻¹ b a1 n1 c1 a2 n2 c2 ((pairZ goal).take cur) cur t HT0.out HT.out p0a p0c _ (HBT5.out.ext (Below.refl wr.heap.size wr).drew) (HSK0.out.ext (Below.refl wr.heap.size wr).drew) (by omega)).mono ?_; rintro e w5 ⟨rfl, hb5⟩; have hc5 := Lib.hid (ext_trans (Below.refl wr.heap.size wr).drew hb5)))
              have HV5 := Lib.hid (HVL.out.ext hc5.out)
              have hbL5 := HV5.out.low
              have hA6 := hA5.ext hc5.out
              clear hc0 hB5 hA5 hi0 hi1
              go_wp2
              go_loopw [21, 22, 23, 24, 84] (fun x _ _ _ i wx => ∃ (k s : Nat), k ≤ gs.length ∧ i = .int .i64 k ∧ x = .int .i64 s ∧ Hid (stopL kn cur 0 gs (guards.map pairZ) = stopL kn cur s (gs.drop k) ((guards.map pairZ).drop k)) ∧ Hid (Below w5.heap.size w5 wx)) (fun _ _ _ _ i _ => gs.length - (intOf i).toNat)
              case atStart => exact ⟨0, 0, by omega, rfl, rfl, rfl, Below.refl _ _⟩
              case round =>
                obtain ⟨k, s, hk, rfl, rfl, HKS, HBX⟩ := hrel
                by_cases hlt : k < gs.length
                · obtain ⟨r, hrk⟩ : ∃ r, gs[k]? = some r := ⟨_, List.getElem?_eq_getElem hlt⟩
                  obtain ⟨bv, hbv⟩ : ∃ bv, bvs[k]? = some bv := ⟨_, List.getElem?_eq_getElem (by rw [HGK.out.1]; exact hlt)⟩
                  have hkS : k + 1 < SL.length := by have h1 := HSLL.out; have h2 := HLG.out; omega
                  obtain ⟨pv, hpv⟩ : ∃ pv, pvs[k + 1]? = some pv := ⟨_, List.getElem?_eq_getElem (by rw [HPVN.out]; exact hkS)⟩
                  obtain ⟨z, hzk⟩ : ∃ z, (guards.map pairZ)[k]? = some z := ⟨_, List.getElem?_eq_getElem (by rw [List.length_map, ← HLEN.out, HLG.out]; exact hlt)⟩
                  have hzk1 : zs[k + 1]? = some z := by rw [HZL.out]; exact hzk
                  have HSTP : Hid (stopL kn cur 0 gs (guards.map pairZ) = stopL kn cur (stopStep s (decG kn r z cur)) (gs.drop (k + 1)) ((guards.map pairZ).drop (k + 1))) := by
                    have h := HKS.out; rw [stopL_step hrk hzk] at h; exact h
                  have HVX := Lib.hid (HV5.out.ext HBX.out)
                  obtain ⟨g', cap', hv', hck⟩ := HVX.out.cell hpv
                  cases hv'
                  obtain ⟨hnk, hsk⟩ := HVX.out.rows.2 (k + 1) pv z hpv hzk1
                  have hzle : cur ≤ z.length := HLE.out z (List.mem_of_getElem? hzk1)
                  have HBVO := Lib.hid ((HGK.out.2 k bv r hbv hrk).ext HVX.out.low)
                  obtain ⟨bq, oq, rfl, hcs⟩ := (HSG.out.ext HVX.out.low).elem (f := bvL (kn : Int)) (fun _ => rfl) (by omega : 0 < 5) hbv
                  have e0 := hcs 0 _ rfl
                  have e1 := hcs 1 _ rfl
                  have e2 := hcs 2 _ rfl
                  have e3 := hcs 3 _ rfl
                  have e4 := hcs 4 _ rfl
                  rw [Nat.add_zero] at e0
                  obtain ⟨pva, pvn, pvc⟩ := pv
                  simp only at hck hnk hsk
                  subst hnk
                  have HSK := Lib.hid hsk
                  have hcapk := sl_caps hsk
                  obtain ⟨bb, ba1, bn1, bc1, ba2, bn2, bc2⟩ := bv
                  simp only at e2 e3 e4
                  clear hcs hrk hbv hpv hzk hzk1 hsk HKS
                  go_upto_region 25 with (fail)
                  clear e0 e1 e2 e3 e4
                  refine wp_box1 fun X hszX hbX hX => ?_
                  have hckX := cell_later hbX hck
                  have HTK : Hid ((z.take cur).length = cur) := by
                    have : (z.take cur).length = cur := by rw [List.length_take]; omega
                    exact this
                  have HSKX : Hid (Sl X (.slice pva cur pvc) cur (ics (z.take cur))) := by
                    have h := (sl_take HSK.out hzle).ext hbX
                    rw [take_ics] at h; exact h
                  have HBVX := Lib.hid (HBVO.out.ext hbX)
                  have HBX2 := Lib.hid (ext_trans HBX.out hbX)
                  have j0 : (0 : Int) ≤ (cur : Int) := Int.natCast_nonneg _
                  have j1 : (cur : Int) ≤ (pvc : Int) := by omega
                  have j2 : (k : Int) + 1 < (SL.length : Int) := by omega
                  have j3 : (0 : Int) ≤ (k : Int) + 1 := by omega
                  obtain ⟨hh, HH⟩ : ∃ hh, Hid (decAt (decB 2 kn (rQ r.n r.d)⁻¹) 0 0 0 (z.take cur) = hh) := ⟨_, rfl⟩
                  have HHG : Hid (decG kn r z cur = hh) := HH
                  rw [HHG.out] at HSTP
                  have j4 : IntKind.i64.wrap ((k : Int) + 1) = (k : Int) + 1 := IntWalk.i64_in _ (by omega)
                  have j5 : ((k : Int) + 1).toNat = k + 1 := by omega
                  clear hszX hbX hck HSK HBVO
                  go_wp2_with fail
                  go_region_held3 (SC X wr.heap.size (betA 2 kn bb ba1 bn1 bc1 ba2 bn2 bc2) g (k + 1) (.slice pva z.length pvc)) (first | exact SC.start hX hckX | exact SC.ext (by with_reducible assumption) (by with_reducible assumption) hX | assumption) (first | (go_at_call 117; refine (decided_is 2 kn (rQ r.n r.d)⁻¹ bb ba1 bn1 bc1 ba2 bn2 bc2 (z.take cur) cur hh HTK.out HH.out pva pvc _ (Bett.ext HBVX.out (Below.refl X.heap.size X).drew) (HSKX.out.ext (Below.refl X.heap.size X).drew) (by omega)).mono ?_; rintro e w8 ⟨rfl, hb8⟩; have hc8 := Lib.hid (ext_trans (Below.refl X.heap.size X).drew hb8)))
                  have HB8 := Lib.hid (ext_trans HBX2.out hc8.out)
                  clear j4 j5 j0 j1 hX hckX
                  have hhN : 0 ≤ (hh : Int) := Int.natCast_nonneg _
                  by_cases h0 : hh = 0
                  · have HNX : Hid (stopL kn cur 0 gs (guards.map pairZ) = stopL kn cur s (gs.drop (k + 1)) ((guards.map pairZ).drop (k + 1))) := by
                      have h := HSTP.out
                      rw [show stopStep s hh = s by unfold stopStep; rw [if_neg (by omega)]] at h
                      exact h
                    have hg1 : decide ((0 : Int) < (hh : Int)) = false := decide_eq_false (by omega)
                    clear HSTP
                    go_wp2
                    go_roundw
                    case rel => exact ⟨k + 1, s, by omega, by go_num, rfl, HNX, HB8⟩
                    case measure => simp [intOf]; omega
                  · have hg1 : decide ((0 : Int) < (hh : Int)) = true := decide_eq_true (by omega)
                    by_cases hs0 : s = 0
                    · have HNX : Hid (stopL kn cur 0 gs (guards.map pairZ) = stopL kn cur hh (gs.drop (k + 1)) ((guards.map pairZ).drop (k + 1))) := by
                        have h := HSTP.out
                        rw [show stopStep s hh = hh by unfold stopStep; rw [if_pos ⟨by omega, .inl hs0⟩]] at h
                        exact h
                      have hg2 : ((s : Int) == 0) = true := by rw [hs0]; rfl
                      clear HSTP hs0
                      go_wp2
                      go_roundw
                      case rel => exact ⟨k + 1, hh, by omega, by go_num, rfl, HNX, HB8⟩
                      case measure => simp [intOf]; omega
                    · have hg2 : ((s : Int) == 0) = false := beq_eq_false_iff_ne.2 (by omega)
                      by_cases hhs : hh < s
                      · have HNX : Hid (stopL kn cur 0 gs (guards.map pairZ) = stopL kn cur hh (gs.drop (k + 1)) ((guards.map pairZ).drop (k + 1))) := by
                          have h := HSTP.out
                          rw [show stopStep s hh = hh by unfold stopStep; rw [if_pos ⟨by omega, .inr hhs⟩]] at h
                          exact h
                        have hg3 : (hh : Int) < (s : Int) := by omega
                        clear HSTP hs0
                        go_wp2
                        go_roundw
                        case rel => exact ⟨k + 1, hh, by omega, by go_num, rfl, HNX, HB8⟩
                        case measure => simp [intOf]; omega
                      · have HNX : Hid (stopL kn cur 0 gs (guards.map pairZ) = stopL kn cur s (gs.drop (k + 1)) ((guards.map pairZ).drop (k + 1))) := by
                          have h := HSTP.out
                          rw [show stopStep s hh = s by unfold stopStep; rw [if_neg (by omega)]] at h
                          exact h
                        have hg3 : decide ((hh : Int) < (s : Int)) = false := decide_eq_false (by omega)
                        have hg4 : decide (hh < s) = false := decide_eq_false hhs
                        clear HSTP hs0
                        go_wp2
                        go_roundw
                        case rel => exact ⟨k + 1, s, by omega, by go_num, rfl, HNX, HB8⟩
                        case measure => simp [intOf]; omega
                · have hkg : k = gs.length := by omega
                  subst hkg
                  have HSTOP : Hid (stopL kn cur 0 gs (guards.map pairZ) = s) := by
                    have h := HKS.out
                    rw [List.drop_eq_nil_of_le (Nat.le_refl _)] at h
                    exact h
                  have HANS2 : Hid (verA pn K n m gs goal guards = (verdV t s cur pn, verdN t s)) := by
                    have h := HANS.out
                    rw [HN0.out, HSTOP.out, show shipN kn n m (pairZ goal) cur = t from HT.out] at h
                    exact h
                  have HBF := Lib.hid (ext_trans (ext_trans hbw2 hbL5) HBX.out)
                  have hA9 := hA6.ext HBX.out
                  have tP : wr.cell? ⟨w.heap.size, 0, none⟩ = some (.int .i64 (pn : Int)) := hA9.2 0
                  clear hA9 HKS
                  by_cases hs0 : 0 < s
                  · have g1 : decide ((0 : Int) < (s : Int)) = true := decide_eq_true (by omega)
                    by_cases ht0 : t = 0
                    · have g2 : ((t : Int) == 0) = true := by rw [ht0]; rfl
                      have HA1 : Hid (verdV t s cur pn = 3 ∧ verdN t s = s) := by
                        have h : verdV t s cur pn = 3 ∧ verdN t s = s := by unfold verdV verdN; rw [if_pos ⟨hs0, .inl ht0⟩, if_pos ⟨hs0, .inl ht0⟩]; exact ⟨rfl, rfl⟩
                        exact h
                      go_wp2
                      go_ret3
                      refine ⟨?_, HBF.out⟩
                      rw [HFIN0.out, HANS2.out]
                      exact ret_three HA1.out.1.symm HA1.out.2.symm rfl
                    · have g2 : ((t : Int) == 0) = false := beq_eq_false_iff_ne.2 (by omega)
                      by_cases hst : s ≤ t
                      · have g3 : (s : Int) ≤ (t : Int) := by omega
                        have HA1 : Hid (verdV t s cur pn = 3 ∧ verdN t s = s) := by
                          have h : verdV t s cur pn = 3 ∧ verdN t s = s := by unfold verdV verdN; rw [if_pos ⟨hs0, .inr hst⟩, if_pos ⟨hs0, .inr hst⟩]; exact ⟨rfl, rfl⟩
                          exact h
                        go_wp2
                        go_ret3
                        refine ⟨?_, HBF.out⟩
                        rw [HFIN0.out, HANS2.out]
                        exact ret_three HA1.out.1.symm HA1.out.2.symm rfl
                      · have g3 : decide ((s : Int) ≤ (t : Int)) = false := decide_eq_false (by omega)
                        have g4 : decide (s ≤ t) = false := decide_eq_false hst
                        have g5 : decide ((0 : Int) < (t : Int)) = true := decide_eq_true (by omega)
                        have HX1 := Lib.hid (show ¬ (0 < s ∧ (t = 0 ∨ s ≤ t)) by omega)
                        have HX2 := Lib.hid (show 0 < t by omega)
                        have HA1 : Hid (verdV t s cur pn = 2 ∧ verdN t s = t) := by
                          have h : verdV t s cur pn = 2 ∧ verdN t s = t := by unfold verdV verdN; rw [if_neg HX1.out, if_neg HX1.out, if_pos HX2.out, if_pos HX2.out]; exact ⟨rfl, rfl⟩
                          exact h
                        go_wp2
                        go_ret3
                        refine ⟨?_, HBF.out⟩
                        rw [HFIN0.out, HANS2.out]
                        exact ret_three HA1.out.1.symm HA1.out.2.symm rfl
                  · have g1 : decide ((0 : Int) < (s : Int)) = false := decide_eq_false (by omega)
                    have HX1 := Lib.hid (show ¬ (0 < s ∧ (t = 0 ∨ s ≤ t)) by omega)
                    by_cases ht0 : 0 < t
                    · have g5 : decide ((0 : Int) < (t : Int)) = true := decide_eq_true (by omega)
                      have HA1 : Hid (verdV t s cur pn = 2 ∧ verdN t s = t) := by
                        have h : verdV t s cur pn = 2 ∧ verdN t s = t := by unfold verdV verdN; rw [if_neg HX1.out, if_neg HX1.out, if_pos ht0, if_pos ht0]; exact ⟨rfl, rfl⟩
                        exact h
                      go_wp2
                      go_ret3
                      refine ⟨?_, HBF.out⟩
                      rw [HFIN0.out, HANS2.out]
                      exact ret_three HA1.out.1.symm HA1.out.2.symm rfl
                    · have g5 : decide ((0 : Int) < (t : Int)) = false := decide_eq_false (by omega)
                      by_cases hcp2 : cur = pn
                      · have g6 : ((cur : Int) == (pn : Int)) = true := by rw [hcp2]; simp
                        have HCP := Lib.hid hcp2
                        clear hcp2
                        have HA1 : Hid (verdV t s cur pn = 4 ∧ verdN t s = 0) := by
                          have h : verdV t s cur pn = 4 ∧ verdN t s = 0 := by unfold verdV verdN; rw [if_neg HX1.out, if_neg HX1.out, if_neg ht0, if_neg ht0, if_pos HCP.out]; exact ⟨rfl, rfl⟩
                          exact h
                        go_wp2
                        go_ret3
                        refine ⟨?_, HBF.out⟩
                        rw [HFIN0.out, HANS2.out]
                        exact ret_three HA1.out.1.symm HA1.out.2.symm rfl
                      · have g6 : ((cur : Int) == (pn : Int)) = false := beq_eq_false_iff_ne.2 (by omega)
                        have HA1 : Hid (verdV t s cur pn = 1 ∧ verdN t s = 0) := by
                          have h : verdV t s cur pn = 1 ∧ verdN t s = 0 := by unfold verdV verdN; rw [if_neg HX1.out, if_neg HX1.out, if_neg ht0, if_neg ht0, if_neg hcp2]; exact ⟨rfl, rfl⟩
                          exact h
                        go_wp2
                        go_ret3
                        refine ⟨?_, HBF.out⟩
                        rw [HFIN0.out, HANS2.out]
                        exact ret_three HA1.out.1.symm HA1.out.2.symm rfl
        · have hneg : ((svs.length : Int) != (gs.length : Int)) = true := by rw [bne_iff_ne]; omega
          have HFIN : Hid (verF pn K n m gs goal guards = 3) := by
            have h := HVF2.out
            rw [if_pos (by rw [← HLEN.out]; exact hlg)] at h
            exact h
          have HV0 := Lib.hid (verA_no HFIN.out (by decide))
          clear hlg
          go_wp2
          go_ret3
          refine ⟨?_, ext_trans hbw2 HBW.out⟩
          rw [HFIN.out, HV0.out]; rfl
  · have hne : (planF P K n m gs != 0) = true := by simp [hpf]
    have HFIN : Hid (verF P K n m gs goal guards = planF P K n m gs) := by
      have : verF P K n m gs goal guards = planF P K n m gs := by unfold verF; rw [if_pos hpf]
      exact this
    have HV0 := Lib.hid (verA_no HFIN.out hpf)
    have HBW := Lib.hid (Below.refl w2.heap.size w2)
    clear hpf HX2
    go_wp2
    go_ret3
    refine ⟨?_, ext_trans hbw2 HBW.out⟩
    rw [HFIN.out, HV0.out]; rfl
end Nm
end Go.Proofs.YtmnmepbljegjeaaGreatDoor
