/- together of the reference. Printed by gen_tog2.py. -/
import Derived.Test.YtiogfdkdhfmamaaGreatDoorRb15
import Derived.Test.YtiogfdkdhfmamaaGreatDoorRb16
import Derived.Deep.AppendLies
namespace Go.Proofs.YtiogfdkdhfmamaaGreatDoor
open Go.RowKit
namespace Rg
open _root_.Go.Proofs.YtiogfdkdhfmamaaGreatDoor.Nt (RH RH.cell RH.box RH.lt RH.new RH.ext RH.fre RH.set RH.other)
theorem comb_post2 (f : Bool → Bool → Bool) (hf : f false false = false) (la lb : List SA) (w : World)
    (ka : ∀ c ∈ cutsL ((la.map SA.raw).map toS), okC c) (kb : ∀ c ∈ cutsL ((lb.map SA.raw).map toS), okC c) (C : List CA) (hC : ∀ c ∈ C, c.ok w) (hmem : ∀ c, c ∈ C.map (·.c) ↔ c ∈ cutsL ((la.map SA.raw).map toS) ∨ c ∈ cutsL ((lb.map SA.raw).map toS)) (hs : AscC C) (hl : C.length ≤ 2 * (la.length + lb.length)) :
    (∀ s ∈ (comb (gA f la lb) C).1.map saO, s.ok w) ∧ TogR f (la.map SA.raw) (lb.map SA.raw) (((comb (gA f la lb) C).1.map saO).map SA.raw) ∧ ((comb (gA f la lb) C).1.map saO).length ≤ la.length + lb.length := by
  obtain ⟨_, i2, i3⟩ := comb_i (gA f la lb) C
  refine ⟨fun s hs => ?_, ?_, ?_⟩
  · obtain ⟨q, hq, rfl⟩ := List.mem_map.1 hs
    obtain ⟨j1, j2⟩ := i3 q hq
    refine ⟨hC _ j1, ?_⟩
    show (q.to.getD zeroA).ok w
    cases ht : q.to with
    | none => exact zeroA_ok w
    | some t => exact hC _ (j2 t ht)
  · have hpw : (C.map (·.c)).Pairwise (fun p q => cmpC p q ≤ 0) := List.pairwise_map.2 (hs.imp (fun h => by omega))
    have h1 := togR_of hf ka kb hpw hmem
    have h2 := comb_map f la lb C
    have e1 : (fun c => f (cov cmpC ((la.map SA.raw).map toS) c) (cov cmpC ((lb.map SA.raw).map toS) c)) = fun c => f (cvL la c) (cvL lb c) := by
      funext c; rw [cvL_is, cvL_is]
    rw [e1, ← h2] at h1
    have e2 : ((comb (gA f la lb) C).1.map saO).map SA.raw = ((comb (gA f la lb) C).1.map strC).map ofS := by
      rw [List.map_map, List.map_map]
      exact List.map_congr_left fun s _ => saO_raw s
    rw [e2]; exact h1
  · rw [List.length_map]
    split at i2 <;> omega
theorem ok_cutsA {l : List SA} (h : ∀ c ∈ cutsL ((l.map SA.raw).map toS), okC c) : ∀ c ∈ cutsAL l, okC c.c := fun c hc => h c.c (by rw [← cutsAL_is]; exact List.mem_map_of_mem hc)
set_option maxRecDepth 100000 in
set_option maxHeartbeats 16000000 in
theorem together_gen (way : Nat) (f : Bool → Bool → Bool) (hff : f false false = false) (hg : ∀ (p q : Bool) (W : World), Calls Tryz.prog 34 #[.int .i64 (way : Int), .bool p, .bool q] W fun e w' => e = .returned (.bool (f p q)) ∧ Below W.heap.size W w') (la lb : List SA) (aa ab : Option Addr) (na nb : Nat) (w : World) (ha : RA w aa na la) (hb : RA w ab nb lb) (hla : la.length ≤ 2000) (hlb : lb.length ≤ 2000)
    (ka : ∀ c ∈ cutsL ((la.map SA.raw).map toS), okC c) (kb : ∀ c ∈ cutsL ((lb.map SA.raw).map toS), okC c) :
    Calls Tryz.prog 22 #[.int .i64 (way : Int), .slice aa la.length na, .slice ab lb.length nb] w (CombPost f la lb w) := by
  have HA := Lib.hid ha
  have HB := Lib.hid hb
  have HK := Lib.hid ka
  have HL := Lib.hid kb
  have HG := Lib.hid hg
  obtain ⟨lx, hlx⟩ : ∃ l, l = la ++ lb := ⟨_, rfl⟩
  have HLX := Lib.hid hlx
  have hlx4 : lx.length ≤ 4000 := by rw [hlx, List.length_append]; omega
  have HCAT : Hid (∀ W, Below w.heap.size w W → W.cell? ⟨w.heap.size, 0, none⟩ = some (.slice aa la.length na) → W.cell? ⟨w.heap.size, 1, none⟩ = some (.slice ab lb.length nb) → Calls Tryz.prog 32 #[.slice (some ⟨w.heap.size, 0, none⟩) 2 2] W (CCCatS.CatPost W lx)) := Lib.hid (fun W hW h0 h1 => by
    rw [hlx]
    exact CCCatS.cat_two w.heap.size 2 aa ab la.length lb.length na nb la lb W h0 h1 (ha.ext hW).sl (hb.ext hW).sl rfl rfl (by omega))
  clear ha hb ka kb hlx hg
  go_enter Tryz.func22, Tryz.ntmps22
  go_wp2_with fail
  refine (HCAT.out _ (ext_alloc w _) ((Nt.RH.new w _ _).cell 0) ((Nt.RH.new w _ _).cell 1)).mono ?_
  rintro e W0 ⟨a3, c3, rfl, hs3, -, hb3⟩
  have hW0 : Below w.heap.size w W0 := ext_trans (ext_alloc w _) hb3
  have HX : Hid (RA W0 a3 c3 lx) := Lib.hid ⟨hs3, fun s hs => by
    rw [HLX.out] at hs
    rcases List.mem_append.1 hs with h | h
    · exact (HA.out.ok s h).ext hW0
    · exact (HB.out.ok s h).ext hW0⟩
  have hl63 : (lx.length : Int) ≤ 4000 := by omega
  clear hs3 hb3 HCAT
  go_wp2
  go_loopw [7, 20] (fun v j wr => ∃ (m : Nat) (V : List CA), m ≤ lx.length ∧ j = .int .i64 (m : Int) ∧ Hid (V = cutsAL (lx.take m)) ∧ OC wr W0.heap.size v V ∧ Below W0.heap.size W0 wr) (fun _ j _ => lx.length - (intOf j).toNat)
  case atStart => exact ⟨0, [], by omega, rfl, Lib.hid (by simp [cutsAL]), World.ownsRow_nil _ _ _ _, Below.refl _ _⟩
  case round =>
    obtain ⟨m, V, hm, rfl, HV, hOV, hwV⟩ := hrel
    generalize hY : wr = Y at *
    clear hY
    by_cases hmt : m < lx.length
    · obtain ⟨s, hs⟩ : ∃ s, lx[m]? = some s := ⟨_, List.getElem?_eq_getElem hmt⟩
      obtain ⟨hok, p, o, rfl, hp0, hcell⟩ := (HX.out.ext hwV).at hs
      have hmx : (m : Int) < (lx.length : Int) := by omega
      have hlV : V.length ≤ 20000 := by
        have h9 := HV.out
        have h7 := cutsAL_len (lx.take m)
        have h4 : (lx.take m).length ≤ 4000 := by rw [List.length_take]; have := hlx4; omega
        rw [h9]; omega
      have HVs : Hid (V ++ cutsA s = cutsAL (lx.take (m + 1))) := Lib.hid (by rw [HV.out, cutsAL_take hs])
      clear hs HV
      go_upto_region 5 with (first | (refine wpList_load_agg rfl _ _ rfl p (o + m * 11) (by rfl) (saL s) (fun j v hj => by rw [Nat.add_assoc]; exact hcell j v hj) _ Tryz.underlying33 rfl (sa_info s) ?_) | (refine wpList_store_row rfl _ _ _ rfl Y.heap.size (saL s).toArray rfl rfl _ _ (Nt.RH.new _ _ _) (sa_info s) rfl (sa_all s) ?_))
      refine wp_stored fun W hbW hR => ?_
      have hOW := ownsRow_ext hOV hbW
      have hwW := ext_trans hwV hbW
      have hbb : some Y.heap.size ≠ u7.ownBlock := fun e => by have := (own_base hOV _ e.symm).2; omega
      have hYW : W0.heap.size ≤ Y.heap.size := hwV.size
      clear hbW hOV hwV hcell hp0
      generalize hb9 : Y.heap.size = b at *
      clear hb9
      have hcl : (caL s.fr).length = 5 := rfl
      have hcl2 : (caL s.to).length = 5 := rfl
      have hdW := (Nat.le_trans hwW.size (ext_alloc W (.cells (caL s.fr).toArray 31)).size)
      go_upto_region 6 with (first | (refine wpList_load_agg rfl _ _ rfl b 0 (by rfl) (caL s.fr) (rh_fr hR) _ Tryz.underlying31 rfl (ca_info s.fr) ?_) | (refine wpList_append_cut rfl _ _ rfl W0.heap.size _ V rfl (ownsRow_ext hOW (ext_alloc _ _)) _ _ s.fr rfl (C5.new W s.fr _) (by omega) hdW ?_; intro v1 w1 hO1 hg1))
      have hbd : some b ≠ u7.ownBlock := hbb
      replace hR := rh_grown (hR.ext (ext_alloc W _)) hg1 hbd
      have hw1 := below_own (hwW.trans (ext_alloc W _ |>.mono (hwW.size))) (ownsRow_ext hOW (ext_alloc W _)) hg1 hdW
      have hen := rh_en hR
      clear hOW hwW hg1 hdW hbb hbd
      by_cases he : s.en = true
      · rw [he] at hen
        have HN : Hid (V ++ [s.fr] = cutsAL (lx.take (m + 1))) := Lib.hid (by rw [← HVs.out]; simp [cutsA, he])
        clear he HVs
        go_wp2
        go_roundw
        case rel => exact ⟨m + 1, V ++ [s.fr], by omega, by go_num, HN, hO1, hw1⟩
        case measure => simp [intOf]; omega
      · have he' : s.en = false := by simpa using he
        rw [he'] at hen
        have HN : Hid ((V ++ [s.fr]) ++ [s.to] = cutsAL (lx.take (m + 1))) := Lib.hid (by rw [← HVs.out]; simp [cutsA, he'])
        have hl2 : (V ++ [s.fr]).length ≤ 100000 := by rw [List.length_append, List.length_singleton]; omega
        have hdW := (Nat.le_trans hw1.size (ext_alloc w1 (.cells (caL s.to).toArray 31)).size)
        clear he he' HVs
        go_upto_region 8 with (first | (refine wpList_load_agg rfl _ _ rfl b 5 (by rfl) (caL s.to) (rh_to hR) _ Tryz.underlying31 rfl (ca_info s.to) ?_) | (refine wpList_append_cut rfl _ _ rfl W0.heap.size _ (V ++ [s.fr]) rfl (ownsRow_ext hO1 (ext_alloc _ _)) _ _ s.to rfl (C5.new w1 s.to _) hl2 hdW ?_; intro v2 w2 hO2 hg2))
        have hw2 := below_own (hw1.trans (ext_alloc w1 _ |>.mono (hw1.size))) (ownsRow_ext hO1 (ext_alloc w1 _)) hg2 hdW
        clear hO1 hg2 hw1 hR hen
        go_wp2
        go_roundw
        case rel => exact ⟨m + 1, V ++ [s.fr] ++ [s.to], by omega, by go_num, HN, hO2, hw2⟩
        case measure => simp [intOf]; omega
    · have hVl : V.length ≤ 8000 := by
        have h9 := HV.out
        have h7 := cutsAL_len (lx.take m)
        have h4 : (lx.take m).length ≤ 4000 := by rw [List.length_take]; have := hlx4; omega
        rw [h9]; omega
      have HVC : Hid (V = cutsAL la ++ cutsAL lb) := Lib.hid (by
        have h1 := HV.out
        rw [List.take_of_length_le (by omega), HLX.out] at h1
        rw [h1]; simp [cutsAL])
      have hVok : ∀ c ∈ V, c.ok w := by
        rw [HVC.out]
        intro c hc
        rcases List.mem_append.1 hc with h | h
        · exact cutsAL_ok HA.out.ok c h
        · exact cutsAL_ok HB.out.ok c h
      have hVC : ∀ c ∈ V, okC c.c := by
        rw [HVC.out]
        intro c hc
        rcases List.mem_append.1 hc with h | h
        · exact ok_cutsA HK.out c h
        · exact ok_cutsA HL.out c h
      obtain ⟨a8, c8, rfl, _⟩ := id (Sl.ofOwn hOV)
      have HS := Lib.hid (sortedCuts_at V a8 c8 w Y (ext_trans hW0 hwV) (Sl.ofOwn hOV) hVok hVC hVl)
      clear hVok hVC
      go_wp2_with fail
      refine HS.out.mono ?_
      rintro e w1 ⟨v8, C, rfl, hO1, hI, hb1⟩
      have hw1 := ext_trans hwV hb1
      have HCW : Hid (∀ c ∈ C, c.ok w) := Lib.hid hI.ok
      have HCok : Hid (∀ c ∈ C, c.ok W0) := Lib.hid (fun c hc => (hI.ok c hc).ext hW0)
      have HT := Lib.hid hI.asc
      have HMM : Hid (∀ c, c ∈ C.map (·.c) ↔ c ∈ cutsL ((la.map SA.raw).map toS) ∨ c ∈ cutsL ((lb.map SA.raw).map toS)) := Lib.hid (fun c => by
        rw [hI.mem, List.take_length, HVC.out, List.map_append, List.mem_append, cutsAL_is, cutsAL_is])
      have HCL2 : Hid (C.length ≤ 2 * (la.length + lb.length)) := Lib.hid (by
        have h1 := hI.len
        have h2 := congrArg List.length HVC.out
        rw [List.length_append] at h2
        have := cutsAL_len la; have := cutsAL_len lb
        omega)
      have hC400' : C.length ≤ 8000 := Nat.le_trans hI.len hVl
      clear hOV hwV hb1 HS hI HV
      -- the places in order lie there as long as the call runs: rows of its own stand on the world behind the sort
      obtain ⟨a7, c7, rfl, hn7, hm7, _, hc7⟩ := Sl.ofOwn hO1
      have hC400 : (C.length : Int) ≤ 8000 := by omega
      have hcC : Hid (∀ (m : Nat) (c : CA), C[m]? = some c → ∃ b o, a7 = some ⟨b, o, none⟩ ∧ b < w1.heap.size ∧ ∀ (j : Nat) (x : Value), (caL c)[j]? = some x → w1.cell? ⟨b, o + (m * 5 + j), none⟩ = some x) := Lib.hid (fun m c hm => by
        obtain ⟨b, o, rfl, h0⟩ := hc7 _ _ (flat_get caL_len C m c hm 0 _ rfl)
        refine ⟨b, o, rfl, World.block_lt_of_cell? _ _ h0, fun j x hx => ?_⟩
        obtain ⟨b', o', e, h1⟩ := hc7 _ _ (flat_get caL_len C m c hm j x hx)
        cases e
        exact h1)
      go_wp2
      go_loopw [10, 11, 42] (fun v b i wr => ∃ (m : Nat), m ≤ C.length ∧ i = .int .i64 (m : Int) ∧ b = .bool (comb (gA f la lb) (C.take m)).2 ∧ OS wr w1.heap.size v ((comb (gA f la lb) (C.take m)).1.map saO) ∧ Below w1.heap.size w1 wr) (fun _ _ i _ => C.length - (intOf i).toNat)
      case atStart => exact ⟨0, by omega, rfl, rfl, World.ownsRow_nil _ _ _ _, Below.refl _ _⟩
      case round =>
        obtain ⟨m, hm, rfl, hop, hOS, hw⟩ := hrel
        generalize hY : wr = Y at *
        clear hY
        obtain ⟨st, hst⟩ : ∃ st, comb (gA f la lb) (C.take m) = st := ⟨_, rfl⟩
        have HI := Lib.hid (hst ▸ comb_i (gA f la lb) (C.take m))
        rw [hst] at hop hOS
        obtain ⟨U, op⟩ := st
        replace hOS : OS Y w1.heap.size u10 (U.map saO) := hOS
        subst hop
        have HST := Lib.hid hst
        clear hst
        by_cases hmt : m < C.length
        · obtain ⟨c, hc⟩ : ∃ c, C[m]? = some c := ⟨_, List.getElem?_eq_getElem hmt⟩
          obtain ⟨p, o, rfl, hp0, hcell⟩ := hcC.out m c hc
          have hmx : (m : Int) < (C.length : Int) := by omega
          have hcc : ∀ (j : Nat) (x : Value), (caL c)[j]? = some x → Y.cell? ⟨p, o + m * 5 + j, none⟩ = some x := fun j x hx => by rw [Nat.add_assoc]; exact (hw.cell (p := ⟨p, o + (m * 5 + j), none⟩) hp0).trans (hcell j x hx)
          go_upto_region 15 with (first | (refine wpList_load_agg rfl _ _ rfl p (o + m * 5) (by rfl) (caL c) hcc _ Tryz.underlying31 rfl (ca_info c) ?_) | (refine wpList_store_row rfl _ _ _ rfl Y.heap.size (caL c).toArray rfl rfl _ _ (Nt.RH.new _ _ _) (ca_info c) rfl (ca_all c) ?_))
          refine wp_stored fun W hbW hR => ?_
          have hW1 := ext_trans hw hbW
          have hOW := ownsRow_ext hOS hbW
          have hwW := ext_trans (ext_trans hW0 hw1) hW1
          have hX : Box W Y.heap.size (caA c) := hR.box
          have HCA : Hid (∀ V, Below w.heap.size w V → Below W.heap.size W V → Calls Tryz.prog 35 #[.slice aa la.length na, .agg (caL c).toArray] V fun e w' => e = .returned (.bool (cvL la c.c)) ∧ Below V.heap.size V w') := Lib.hid (fun V hV hV2 => refCovers_at la c aa na V (HA.out.ext hV) ((HCok.out c (List.mem_of_getElem? hc)).ext (ext_trans (ext_trans hw1 hW1) hV2)))
          have HCB : Hid (∀ V, Below w.heap.size w V → Below W.heap.size W V → Calls Tryz.prog 35 #[.slice ab lb.length nb, .agg (caL c).toArray] V fun e w' => e = .returned (.bool (cvL lb c.c)) ∧ Below V.heap.size V w') := Lib.hid (fun V hV hV2 => refCovers_at lb c ab nb V (HB.out.ext hV) ((HCok.out c (List.mem_of_getElem? hc)).ext (ext_trans (ext_trans hw1 hW1) hV2)))
          have HGA : gA f la lb c = f (cvL la c.c) (cvL lb c.c) := rfl
          have hbb : some Y.heap.size ≠ u10.ownBlock := fun e => by have := (own_base hOS _ e.symm).2; omega
          have hYW : w1.heap.size ≤ Y.heap.size := hw.size
          have HTK := comb_take (g := gA f la lb) hc
          rw [HST.out] at HTK
          have HTK := Lib.hid HTK
          clear hOS hbW hcc hcell hp0 hc HST
          generalize Y.heap.size = b at *
          generalize cvL la c.c = pa at *
          generalize cvL lb c.c = pb at *
          have HGA := Lib.hid HGA
          obtain ⟨_, hX5⟩ := id hX
          have hy0 : ∀ p : GrownOf W, p.v.cell? ⟨b, 0, none⟩ = some (.int .i64 c.c.v.ma) := fun p => (ca_cells (hR.ext p.b)).1
          have hy1 : ∀ p : GrownOf W, p.v.cell? ⟨b, 1, none⟩ = some (.int .i64 c.c.v.mi) := fun p => (ca_cells (hR.ext p.b)).2.1
          have hy2 : ∀ p : GrownOf W, p.v.cell? ⟨b, 2, none⟩ = some (.int .i64 c.c.v.pa) := fun p => (ca_cells (hR.ext p.b)).2.2.1
          have hy3 : ∀ p : GrownOf W, p.v.cell? ⟨b, 3, none⟩ = some (.slice c.a c.c.v.pre.length c.n) := fun p => (ca_cells (hR.ext p.b)).2.2.2.1
          have hy4 : ∀ p : GrownOf W, p.v.cell? ⟨b, 4, none⟩ = some (.bool c.c.af) := fun p => (ca_cells (hR.ext p.b)).2.2.2.2
          have hcv1 : ∀ p : GrownOf W, Calls Tryz.prog 35 #[.slice aa la.length na, .agg #[.int .i64 c.c.v.ma, .int .i64 c.c.v.mi, .int .i64 c.c.v.pa, .slice c.a c.c.v.pre.length c.n, .bool c.c.af]] p.v fun e w' => e = .returned (.bool pa) ∧ Below p.v.heap.size p.v w' := fun p => HCA.out p.v (ext_trans hwW p.b) p.b
          have hcv2 : ∀ p : GrownOf W, Calls Tryz.prog 35 #[.slice ab lb.length nb, .agg #[.int .i64 c.c.v.ma, .int .i64 c.c.v.mi, .int .i64 c.c.v.pa, .slice c.a c.c.v.pre.length c.n, .bool c.c.af]] p.v fun e w' => e = .returned (.bool pb) ∧ Below p.v.heap.size p.v w' := fun p => HCB.out p.v (ext_trans hwW p.b) p.b
          have hcv3 : ∀ p : GrownOf W, Calls Tryz.prog 34 #[.int .i64 (way : Int), .bool pa, .bool pb] p.v fun e w' => e = .returned (.bool (f pa pb)) ∧ Below p.v.heap.size p.v w' := fun p => HG.out pa pb p.v
          go_wp2_with fail
          (refine wp_region_below (by kernel_rfl) (by kernel_rfl) ?_
           repeat (quiet_step (first | (go_at_call 35; with_reducible refine callsGrow (hcv1 _)) | (go_at_call 35; with_reducible refine callsGrow (hcv2 _)) | (go_at_call 34; with_reducible refine callsGrow (hcv3 _))))
           refine wpQuiet_nil ?_
           intro w4 hw'
           have hb9 := GrownOf.of hw'
           clear hw')
          clear hy0 hy1 hy2 hy3 hy4 hcv1 hcv2 hcv3
          have hc9 := (hX.ext hb9).2
          have hOV := ownsRow_ext hOW hb9
          have hV1 := ext_trans hW1 hb9
          have hbV : b < w4.heap.size := Nat.lt_of_lt_of_le hX.1 hb9.size
          have hcV : ∀ (j : Nat) (x : Value), (caL c)[j]? = some x → w4.cell? ⟨b, 0 + j, none⟩ = some x := fun j x hx => by rw [Nat.zero_add, hc9 j]; exact (List.getElem?_toArray).trans hx
          clear hOW hwW hW1 hR hX hb9 hc9 hX5 HCA HCB
          obtain ⟨z, hz⟩ : ∃ z, f pa pb = z := ⟨_, rfl⟩
          rw [hz] at HGA ⊢
          have HZ : Hid (comb (gA f la lb) (C.take (m + 1)) = (if z = true ∧ op = false then U ++ [⟨c, none⟩] else if z = false ∧ op = true then endAt U c else U, z)) := Lib.hid (by
            rw [HTK.out]; unfold stepC; rw [HGA.out])
          clear hz HGA HTK
          cases z <;> cases op
          · have HN : Hid (comb (gA f la lb) (C.take (m + 1)) = (U, false)) := HZ
            clear HZ hcV
            go_wp2
            go_roundw
            case rel => exact ⟨m + 1, by omega, by go_num, by rw [HN.out], by rw [HN.out]; exact hOV, hV1⟩
            case measure => simp [intOf]; omega
          · obtain ⟨V, fr, hVe⟩ := HI.out.op rfl
            simp only at hVe
            subst hVe
            have HN : Hid (comb (gA f la lb) (C.take (m + 1)) = (V ++ [⟨fr, some c⟩], false)) := Lib.hid (by
              rw [HZ.out, if_neg (by simp), if_pos ⟨rfl, rfl⟩, endAt_snoc])
            have hO : w4.ownsRow w1.heap.size 33 11 u10 (V.length + 1) ((V.map saO ++ [saO ⟨fr, none⟩]).flatMap saL) := by simpa using hOV
            have hVl : V.length ≤ 10000 := by
              have := HI.out.len
              simp at this
              omega
            clear HZ hOV
            obtain ⟨g7, cap, rfl, hg1, hg2⟩ := hO.form (by omega)
            go_upto_region 20 with (first | (refine wpList_load_agg rfl _ _ rfl b 0 (by rfl) (caL c) hcV _ Tryz.underlying31 rfl (ca_info c) ?_) | (refine wpList_store_own rfl _ _ _ rfl g7 (V.length * 11 + 5) (.agg (caL c).toArray) (caL c) (by first | rfl | (simp; omega)) rfl rfl w1.heap.size _ 11 _ cap _ hO (by rw [caL_len]; omega) (ca_info c) (caL_one c) ?_; intro w5 hO5 hg5) | (refine wpList_store_own rfl _ _ _ rfl g7 (V.length * 11 + 10) (.bool false) [.bool false] (by first | rfl | (simp; omega)) rfl rfl w1.heap.size _ 11 _ cap _ hO5 (by simp; omega) (by kernel_rfl) (by intro u hu; rw [List.mem_singleton.1 hu]; rfl) ?_; intro w6 hO6 hg6))
            have hE := str_end (V.map saO) (saO ⟨fr, none⟩) c
            rw [List.length_map] at hE
            rw [hE] at hO6
            have hO9 : OS w6 w1.heap.size (.slice (some ⟨g7, 0, none⟩) (V.length + 1) cap) ((V ++ [(⟨fr, some c⟩ : Str CA)]).map saO) := by
              have e1 : ((V ++ [(⟨fr, some c⟩ : Str CA)]).map saO) = V.map saO ++ [SA.mk (saO ⟨fr, none⟩).fr c false] := by simp [saO]
              show World.ownsRow _ _ _ 11 _ ((V ++ [(⟨fr, some c⟩ : Str CA)]).map saO).length _
              rw [e1, List.length_append, List.length_map]; exact hO6
            have hV6 : Below w1.heap.size w1 w6 := (hV1.grown hg5 hV1.size (fun q hq => by cases hq; exact hg1)).grown hg6 (by have := hg5.size; omega) (fun q hq => by cases hq; exact hg1)
            clear hO hO5 hO6 hg5 hg6 hV1 hE hcV
            go_wp2
            go_roundw
            case rel => exact ⟨m + 1, by omega, by go_num, by rw [HN.out], by rw [HN.out]; exact hO9, hV6⟩
            case measure => simp [intOf]; omega
          · have HN : Hid (comb (gA f la lb) (C.take (m + 1)) = (U ++ [⟨c, none⟩], true)) := HZ
            have hUl9 : (U.map saO).length ≤ 100000 := by
              have := HI.out.len
              rw [List.length_map]
              simp at this
              omega
            clear HZ
            have hcX : ∀ (j : Nat) (x : Value), ([.int .i64 c.c.v.ma, .int .i64 c.c.v.mi, .int .i64 c.c.v.pa, .slice c.a c.c.v.pre.length c.n, .bool c.c.af] : List Value)[j]? = some x → w4.cell? ⟨b, 0 + j, none⟩ = some x := hcV
            go_upto_region 18 with (first | (refine wpList_load_agg rfl _ _ rfl b 0 (by rfl) [.int .i64 c.c.v.ma, .int .i64 c.c.v.mi, .int .i64 c.c.v.pa, .slice c.a c.c.v.pre.length c.n, .bool c.c.af] hcX _ Tryz.underlying31 rfl (ca_info c) ?_) | (refine wpList_append_str rfl _ _ rfl w1.heap.size _ (U.map saO) rfl (ownsRow_ext hOV (ext_alloc _ _)) _ _ (saO ⟨c, none⟩) rfl (C11.new w4 (saO ⟨c, none⟩) _) hUl9 (Nat.le_trans hV1.size (ext_alloc w4 _).size) ?_; intro v5 w5 hO5 hg5))
            have hV5 := below_own (hV1.trans ((ext_alloc w4 _).mono hV1.size)) (ownsRow_ext hOV (ext_alloc w4 _)) hg5 (Nat.le_trans hV1.size (ext_alloc w4 _).size)
            have hO9 : OS w5 w1.heap.size v5 ((U ++ [(⟨c, none⟩ : Str CA)]).map saO) := by
              rw [List.map_append]; exact hO5
            clear hO5 hg5 hOV hV1 hcV
            go_wp2
            go_roundw
            case rel => exact ⟨m + 1, by omega, by go_num, by rw [HN.out], by rw [HN.out]; exact hO9, hV5⟩
            case measure => simp [intOf]; omega
          · have HN : Hid (comb (gA f la lb) (C.take (m + 1)) = (U, true)) := HZ
            clear HZ hcV
            go_wp2
            go_roundw
            case rel => exact ⟨m + 1, by omega, by go_num, by rw [HN.out], by rw [HN.out]; exact hOV, hV1⟩
            case measure => simp [intOf]; omega
        · have HPOST : Hid (CombPost f la lb w (.returned u10) Y) := Lib.hid (by
            have hT : C.take m = C := List.take_of_length_le (by omega)
            have h1 := HST.out
            rw [hT] at h1
            obtain ⟨k1, k2, k3⟩ := comb_post2 f hff la lb w HK.out HL.out C HCW.out HMM.out HT.out HCL2.out
            rw [h1] at k1 k2 k3
            have hle : w.heap.size ≤ w1.heap.size := (ext_trans hW0 hw1).size
            exact ⟨u10, U.map saO, rfl, own_mono hOS hle, k1, k2, k3, ext_trans (ext_trans hW0 hw1) hw⟩)
          clear HST HI hOS
          go_wp2
          go_ret
          exact HPOST.out
theorem together_at (way : Nat) (hway : way ≤ 2) (la lb : List SA) (aa ab : Option Addr) (na nb : Nat) (w : World) (ha : RA w aa na la) (hb : RA w ab nb lb) (hla : la.length ≤ 2000) (hlb : lb.length ≤ 2000)
    (ka : ∀ c ∈ cutsL ((la.map SA.raw).map toS), okC c) (kb : ∀ c ∈ cutsL ((lb.map SA.raw).map toS), okC c) :
    Calls Tryz.prog 22 #[.int .i64 (way : Int), .slice aa la.length na, .slice ab lb.length nb] w (CombPost (wayF way) la lb w) :=
  together_gen way (wayF way) (wayF_ff way) (fun p q W => takes_at way hway p q W) la lb aa ab na nb w ha hb hla hlb ka kb
end Rg
end Go.Proofs.YtiogfdkdhfmamaaGreatDoor
