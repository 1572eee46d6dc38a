/- combined, Join, Meet and Without of package value. Printed by gen_combd.py. checkedTogether, Join, Meet and Without of the reference. Printed by gen_tog2.py. The walk of RangeSetsMatchSpec. Printed by gen_lawmrs.py. -/
import Derived.Test.YtiogfdkdhfmamaaGreatDoorRb14
import Derived.Test.YtiogfdkdhfmamaaGreatDoorRb17
namespace Go.Proofs.YtiogfdkdhfmamaaGreatDoor
open Go.RowKit
namespace Rg
open _root_.Go.Proofs.YtiogfdkdhfmamaaGreatDoor.Nt (RH RH.cell RH.box RH.lt RH.new RH.ext RH.fre RH.set RH.other)
theorem grown_of {w w' : World} (h : Below w.heap.size w w') (r : Option Nat) : w.grownBy w' r := ⟨h.os, h.tape, h.output, h.size, fun k hk _ => h.block k hk⟩
/-- a stretch that stays when the block g is written -/
def OkG (g : Option Nat) (w : World) (s : SA) : Prop := ∀ w', w.grownBy w' g → s.ok w'
theorem OkG.now {g : Option Nat} {w : World} {s : SA} (h : OkG g w s) : s.ok w := h w (World.grownBy.refl w g)
theorem OkG.next {g : Option Nat} {w w' : World} {s : SA} (h : OkG g w s) (hg : w.grownBy w' g) : OkG g w' s := fun w'' h'' => h w'' (hg.trans h'')
theorem OkG.old {w0 w : World} {g : Nat} {s : SA} (h : s.ok w0) (hb : Below w0.heap.size w0 w) (hg : w0.heap.size ≤ g) : OkG (some g) w s := fun w' h' => h.ext (hb.grown h' hb.size (fun q hq => by cases hq; exact hg))
theorem OkG.fresh {N : Nat} {w : World} {g : Nat} {s : SA} (h : Fresh N (fun w => s.ok w) w) (hg : g < N) : OkG (some g) w s := fun w' h' => h w' (Kept.grown h' hg)
theorem str_put {S : List SA} {k : Nat} {s : SA} (hk : k < S.length) : setL (S.flatMap saL) (k * 11) (saL s) = (S.set k s).flatMap saL := by
  have e0 : S = S.take k ++ S[k] :: S.drop (k + 1) := by rw [List.getElem_cons_drop, List.take_append_drop]
  have e1 : S.flatMap saL = (S.take k).flatMap saL ++ (saL S[k] ++ (S.drop (k + 1)).flatMap saL) := by
    conv => lhs; rw [e0]
    rw [List.flatMap_append, List.flatMap_cons]
  have l1 : ((S.take k).flatMap saL).length = k * 11 := by rw [flat_length saL_len, List.length_take, Nat.min_eq_left (by omega)]
  have h1 := setL_mid (saL s) ((S.take k).flatMap saL) (saL S[k]) ((S.drop (k + 1)).flatMap saL) (by rw [saL_len, saL_len])
  rw [l1] at h1
  rw [e1, h1, List.set_eq_take_append_cons_drop, if_pos hk, List.flatMap_append, List.flatMap_cons]
theorem raw_put {S : List SA} {k : Nat} {s s' : SA} (hk : S[k]? = some s) (hr : s'.raw = s.raw) : (S.set k s').map SA.raw = S.map SA.raw := by
  rw [List.map_set, hr]
  obtain ⟨h1, rfl⟩ := List.getElem?_eq_some_iff.1 hk
  apply List.ext_getElem?
  intro j
  rw [List.getElem?_set]
  split
  · next h => subst h; simp [h1]
  · rfl
theorem pre_ok {v : Ver} (h : chkVer v = 0) : v.pre.length ≤ 100000 := by
  unfold chkVer at h
  by_cases h1 : rngOk v = false
  · rw [if_pos h1] at h; cases h
  rw [if_neg h1] at h
  by_cases h2 : 10 < v.pre.length
  · rw [if_pos h2] at h; cases h
  · omega
theorem tog_pre {f : Bool → Bool → Bool} {x y R : List RS} (h : TogR f x y R) {s : RS} (hs : s ∈ R) : s.fr.v.pre.length ≤ 100000 ∧ s.to.v.pre.length ≤ 100000 := by
  have hm : toS s ∈ R.map toS := List.mem_map_of_mem hs
  have h1 : okC s.fr := h.ok _ (List.mem_flatMap.2 ⟨toS s, hm, by simp [cutsS, toS]⟩)
  refine ⟨pre_ok h1, ?_⟩
  cases he : s.en with
  | true => rw [h.zero s hs he]; simp [zeroC]
  | false => exact pre_ok (h.ok _ (List.mem_flatMap.2 ⟨toS s, hm, by simp [cutsS, toS, he]⟩) : okC s.to)
/-- what is wrong with two ranges put together: n stretches -/
def togF (x y : List RS) (n : Nat) : Int := if chkR x ≠ 0 then chkR x else if chkR y ≠ 0 then chkR y else if 100 < n then 2 else 0
/-- what putting two ranges together answers -/
def TogPost (f : Bool → Bool → Bool) (x y : List RS) (w : World) (e : Ending) (w' : World) : Prop :=
  ∃ R : List SA, (chkR x = 0 → chkR y = 0 → TogR f x y (R.map SA.raw)) ∧ (if togF x y R.length = 0 then ∃ a n, e = .returned (.tuple #[.slice a R.length n, .int .i64 0]) ∧ RA w' a n R else e = .returned (.tuple #[.slice none 0 0, .int .i64 (togF x y R.length)])) ∧ Below w.heap.size w w'
set_option maxRecDepth 100000 in
set_option maxHeartbeats 8000000 in
theorem checkRanges_at (la lb : List SA) (aa ab : Option Addr) (na nb : Nat) (w : World) (ha : RA w aa na la) (hb : RA w ab nb lb) :
    Calls Tryz.prog 18 #[.slice aa la.length na, .slice ab lb.length nb] w fun e w' => e = .returned (.int .i64 (if chkR (la.map SA.raw) ≠ 0 then chkR (la.map SA.raw) else chkR (lb.map SA.raw))) ∧ Below w.heap.size w w' := by
  have HA := Lib.hid ha
  have HB := Lib.hid hb
  obtain ⟨x, hx⟩ : ∃ z, chkR (la.map SA.raw) = z := ⟨_, rfl⟩
  obtain ⟨y, hy⟩ : ∃ z, chkR (lb.map SA.raw) = z := ⟨_, rfl⟩
  have H1 : Hid (Calls Tryz.prog 24 #[.slice aa la.length na] w fun e w' => e = .returned (.int .i64 x) ∧ Below w.heap.size w w') := Lib.hid (by rw [← hx]; exact checkRange_at la aa na w HA.out)
  have H2 : Hid (∀ V, Below w.heap.size w V → Calls Tryz.prog 24 #[.slice ab lb.length nb] V fun e w' => e = .returned (.int .i64 y) ∧ Below V.heap.size V w') := Lib.hid (fun V hV => by rw [← hy]; exact checkRange_at lb ab nb V (HB.out.ext hV))
  rw [hx, hy]
  obtain ⟨r, hr⟩ : ∃ z, (if x ≠ 0 then x else y) = z := ⟨_, rfl⟩
  rw [hr]
  have HR := Lib.hid hr
  clear ha hb HA HB hx hy hr
  go_enter Tryz.func18, Tryz.ntmps18
  go_wp2_with fail
  refine H1.out.mono ?_
  rintro e w1 ⟨rfl, hb1⟩
  by_cases h0 : x = 0
  · subst h0
    have HR : Hid (y = r) := Lib.hid (by rw [← HR.out, if_neg (by simp)])
    go_wp2_with fail
    refine (H2.out _ hb1).mono ?_
    rintro e w2 ⟨rfl, hb2⟩
    have hb3 := ext_trans hb1 hb2
    clear hb1 hb2
    go_wp2
    go_ret
    exact ⟨ret_int HR.out, hb3⟩
  · have HR : Hid (x = r) := Lib.hid (by rw [← HR.out, if_pos h0])
    have hne : (x != 0) = true := by simpa using h0
    clear h0
    go_wp2
    go_ret
    exact ⟨ret_int HR.out, hb1⟩
set_option maxRecDepth 100000 in
set_option maxHeartbeats 8000000 in
theorem combined_at (la lb : List SA) (aa ab : Option Addr) (na nb : Nat) (g : Nat) (f : Bool → Bool → Bool) (eg : ∀ args w, (callFunc g args).run Tryz.prog w = .ok (.enter g args) w)
    (hg : ∀ p q W, Calls Tryz.prog g #[.bool p, .bool q] W fun e w' => e = .returned (.bool (f p q)) ∧ Below W.heap.size W w') (hff : f false false = false) (w : World) (ha : RA w aa na la) (hb : RA w ab nb lb) :
    Calls Tryz.prog 12 #[.slice aa la.length na, .slice ab lb.length nb, .func (.func g) #[] #[]] w (TogPost f (la.map SA.raw) (lb.map SA.raw) w) := by
  obtain ⟨x, hx⟩ : ∃ z, chkR (la.map SA.raw) = z := ⟨_, rfl⟩
  obtain ⟨y, hy⟩ : ∃ z, chkR (lb.map SA.raw) = z := ⟨_, rfl⟩
  have H1 : Hid (Calls Tryz.prog 18 #[.slice aa la.length na, .slice ab lb.length nb] w fun e w' => e = .returned (.int .i64 (if x ≠ 0 then x else y)) ∧ Below w.heap.size w w') := Lib.hid (by rw [← hx, ← hy]; exact checkRanges_at la lb aa ab na nb w ha hb)
  have H2 : Hid (x = 0 → y = 0 → ∀ V, Below w.heap.size w V → Calls Tryz.prog 19 #[.slice aa la.length na, .slice ab lb.length nb, .func (.func g) #[] #[]] V (CombPost f la lb V)) := Lib.hid (fun h0 h1 V hV => by
    obtain ⟨k1, k2, k3, k4⟩ := chkR_ok (hx.trans h0)
    obtain ⟨j1, j2, j3, j4⟩ := chkR_ok (hy.trans h1)
    rw [List.length_map] at k1 j1
    exact combine_at la lb aa ab na nb g f eg hg hff V (ha.ext hV) (hb.ext hV) (by omega) (by omega) k3 j3)
  have HX := Lib.hid hx
  have HY := Lib.hid hy
  clear ha hb hx hy hg eg
  obtain ⟨r, hr⟩ : ∃ z, (if x ≠ 0 then x else y) = z := ⟨_, rfl⟩
  rw [hr] at H1
  have HLR : Hid (x = 0 → y = 0 → la.length + lb.length ≤ 200) := Lib.hid (fun h0 h1 => by
    obtain ⟨k1, _⟩ := chkR_ok (HX.out.trans h0)
    obtain ⟨j1, _⟩ := chkR_ok (HY.out.trans h1)
    rw [List.length_map] at k1 j1
    omega)
  have HR := Lib.hid hr
  clear hr
  go_enter Tryz.func12, Tryz.ntmps12
  go_wp2_with fail
  refine H1.out.mono ?_
  rintro e w1 ⟨rfl, hb1⟩
  by_cases h0 : r = 0
  · subst h0
    have hxy : x = 0 ∧ y = 0 := by
      have h0 := HR.out
      by_cases h : x = 0
      · rw [h] at h0; simp at h0; exact ⟨h, h0⟩
      · rw [if_pos h] at h0; exact absurd h0 h
    have HC := Lib.hid (H2.out hxy.1 hxy.2 w1 hb1)
    have hLR := HLR.out hxy.1 hxy.2
    have HX0 := Lib.hid (HX.out.trans hxy.1)
    have HY0 := Lib.hid (HY.out.trans hxy.2)
    clear H2 HLR hxy HX HY HR
    go_wp2_with fail
    refine HC.out.mono ?_
    rintro e w2 ⟨v, R, rfl, hO, hok, hT, hRl, hb2⟩
    have HT := Lib.hid hT
    have hbw := ext_trans hb1 hb2
    have hlen : (R.length : Int) ≤ 200 := by omega
    have HOK := Lib.hid hok
    clear hT hRl HC hLR hok
    obtain ⟨a7, c7, hv7, hn7, hm7, _⟩ := Sl.ofOwn hO
    subst hv7
    by_cases hc : 100 < R.length
    · have HF : Hid (TogPost f (la.map SA.raw) (lb.map SA.raw) w (.returned (.tuple #[.slice none 0 0, .int .i64 2])) w2) := Lib.hid ⟨R, (fun _ _ => HT.out), (by
        have e1 : togF (la.map SA.raw) (lb.map SA.raw) R.length = 2 := by
          unfold togF; rw [if_neg (by rw [HX0.out]; simp), if_neg (by rw [HY0.out]; simp), if_pos hc]
        rw [e1, if_neg (by omega)]), hbw⟩
      have hci : (100 : Int) < (R.length : Int) := by omega
      clear hc HT HOK hO hb1 hb2 hbw
      go_wp2
      go_ret2
      exact HF.out
    · have hci : ¬ (100 : Int) < (R.length : Int) := by omega
      have HZ : Hid (togF (la.map SA.raw) (lb.map SA.raw) R.length = 0) := Lib.hid (by
        unfold togF; rw [if_neg (by rw [HX0.out]; simp), if_neg (by rw [HY0.out]; simp), if_neg hc])
      clear hc
      go_wp2
      go_loopw [27] (fun i wr => ∃ (k : Nat) (S : List SA), k ≤ R.length ∧ i = .int .i64 (k : Int) ∧ Hid (S.length = R.length) ∧ Hid (S.map SA.raw = R.map SA.raw) ∧ Hid (wr.ownsRow w1.heap.size 33 11 (.slice a7 R.length c7) R.length (S.flatMap saL)) ∧ Hid (∀ s ∈ S, OkG (Value.slice a7 R.length c7).ownBlock wr s) ∧ Below w1.heap.size w1 wr) (fun i _ => R.length - (intOf i).toNat)
      case atStart => exact ⟨0, R, by omega, rfl, rfl, rfl, Lib.hid hO, Lib.hid (fun s hs => by
        have hR0 : 0 < R.length := List.length_pos_of_mem hs
        obtain ⟨g7, cap, hv, hg1, hg2⟩ := hO.form hR0
        rw [hv]
        exact OkG.old (HOK.out s hs) hb2 hg1), hb2⟩
      case round =>
        obtain ⟨k, S, hk, rfl, HSL, HSR, HO, HSO, hw⟩ := hrel
        generalize hX : wr = X at *
        clear hX hO hb2 hbw
        by_cases hlt : k < R.length
        · have hkS : k < S.length := by rw [HSL.out]; exact hlt
          obtain ⟨s, hs⟩ : ∃ s, S[k]? = some s := ⟨_, List.getElem?_eq_getElem hkS⟩
          have HKS := Lib.hid hkS
          obtain ⟨g7, cap, hv, hg1, hg2⟩ := HO.out.form (by omega)
          cases hv
          have hOX := HO.out
          have hcell : ∀ (j : Nat) (x : Value), (saL s)[j]? = some x → X.cell? ⟨g7, k * 11 + j, none⟩ = some x := fun j x hx => by
            have hj : j < 11 := by have := (List.getElem?_eq_some_iff.1 hx).1; rwa [saL_len] at this
            rw [hOX.cellAt (k * 11 + j) (by omega)]
            exact flat_get saL_len S k s hs j x hx
          have hki : (k : Int) < (R.length : Int) := by omega
          have HSO2 : Hid (OkG (some g7) X s) := Lib.hid (HSO.out s (List.mem_of_getElem? hs))
          have hpre := tog_pre HT.out (s := s.raw) (by rw [← HSR.out]; exact List.mem_map_of_mem (List.mem_of_getElem? hs))
          have HPRE := Lib.hid hpre
          have HKSg := Lib.hid hs
          clear hpre hs hkS hOX
          go_upto_region 10 with (first | (refine wpList_load_agg rfl _ _ rfl g7 (k * 11) (by rfl) (saL s) hcell _ Tryz.underlying33 rfl (sa_info s) ?_) | (refine wpList_store_row rfl _ _ _ rfl X.heap.size (saL s).toArray rfl rfl _ _ (Nt.RH.new _ _ _) (sa_info s) rfl (sa_all s) ?_))
          refine wp_stored fun W hbW hR => ?_
          have hXb : g7 < X.heap.size := hg2
          have hOW := ownsRow_ext HO.out hbW
          have hwW := hw.trans (hbW.mono hw.size)
          have HCS := Lib.hid (copyStretch_at s W ((HSO2.out.now).ext hbW) HPRE.out.1 HPRE.out.2)
          have hbs : X.heap.size < W.heap.size := hR.lt
          have HBW := Lib.hid hbW
          have HBX := Lib.hid hXb
          have HW1 := Lib.hid hw.size
          clear hbW hw HSO2 HPRE hcell hg2
          generalize hb : X.heap.size = b at *
          have HXB := Lib.hid hb
          clear hb
          go_wp2_with (refine wpList_load_agg rfl _ _ rfl b 0 (by rfl) (saL s) (fun j v hj => by rw [Nat.zero_add, hR.cell]; exact (List.getElem?_toArray).trans hj) _ Tryz.underlying33 rfl (sa_info s) ?_)
          refine HCS.out.mono ?_
          rintro e w3 ⟨s', rfl, hraw, hfr, hb3⟩
          have hO3 := ownsRow_ext hOW hb3
          have hg13 : w1.heap.size ≤ w3.heap.size := Nat.le_trans hwW.size (by first | exact hb3.size | omega)
          have hw3 := hwW.trans (hb3.mono hwW.size)
          have HRAW := Lib.hid hraw
          have HFR := Lib.hid hfr
          have HB3 := Lib.hid hb3
          have hkb : k * 11 + (saL s').length ≤ R.length * 11 := by rw [saL_len]; omega
          clear hOW hwW hR hraw hfr hb3
          go_upto_region 11 with (refine wpList_store_own rfl _ _ _ rfl g7 (k * 11) (.agg (saL s').toArray) (saL s') (by rfl) rfl rfl w1.heap.size _ 11 _ c7 _ hO3 hkb (sa_info s') (saL_one s') ?_; intro w4 hO4 hg4)
          have hO5 := Lib.hid hO4
          have hw4 : Below w1.heap.size w1 w4 := hw3.grown hg4 hg13 (fun q hq => by cases hq; exact hg1)
          have HG4 := Lib.hid hg4
          clear hO3 hO4 hg4 hw3
          go_wp2
          go_roundw
          case rel => exact ⟨k + 1, S.set k s', by omega, by go_num, Lib.hid (by rw [List.length_set]; exact HSL.out), Lib.hid (by rw [raw_put HKSg.out HRAW.out]; exact HSR.out), Lib.hid (by rw [← str_put HKS.out]; exact hO5.out), Lib.hid (fun q hq => by
            have hWg : g7 < W.heap.size := Nat.lt_trans HBX.out hbs
            rcases List.mem_or_eq_of_mem_set hq with h | rfl
            · exact (HSO.out q h).next ((grown_of (by rw [HXB.out]; exact HBW.out) _).trans ((grown_of HB3.out _).trans HG4.out))
            · exact OkG.fresh (HFR.out.kept HG4.out.size (Kept.grown HG4.out hWg)) hWg), hw4⟩
          case measure => simp [intOf]; omega
        · have HF : Hid (TogPost f (la.map SA.raw) (lb.map SA.raw) w (.returned (.tuple #[.slice a7 R.length c7, .int .i64 0])) X) := Lib.hid ⟨S, (fun _ _ => by rw [HSR.out]; exact HT.out), (by
            rw [HSL.out, if_pos HZ.out]
            exact ⟨a7, c7, rfl, by rw [HSL.out]; exact Sl.ofOwn HO.out, fun s hs => (HSO.out s hs).now⟩), ext_trans hb1 hw⟩
          clear HO HSO HSL HSR hw
          go_wp2
          go_ret2
          exact HF.out
  · have HF : Hid (TogPost f (la.map SA.raw) (lb.map SA.raw) w (.returned (.tuple #[.slice none 0 0, .int .i64 r])) w1) := Lib.hid ⟨[], (fun h1 h2 => by
      exfalso
      have h3 := HX.out.symm.trans h1
      have h4 := HY.out.symm.trans h2
      have h5 := HR.out
      rw [if_neg (by rw [h3]; simp), h4] at h5
      exact h0 h5.symm), (by
      have e1 : togF (la.map SA.raw) (lb.map SA.raw) ([] : List SA).length = r := by
        unfold togF
        rw [HX.out, HY.out, ← HR.out]
        by_cases h1 : x ≠ 0
        · rw [if_pos h1, if_pos h1]
        · rw [if_neg h1, if_neg h1]
          by_cases h2 : y ≠ 0
          · rw [if_pos h2]
          · exfalso
            apply h0
            rw [← HR.out, if_neg h1]
            exact Classical.not_not.1 h2
      rw [e1, if_neg h0]), hb1⟩
    have hne : (r != 0) = true := by simpa using h0
    clear h0 H1 H2 hb1
    go_wp2
    go_ret2
    exact HF.out
set_option maxRecDepth 100000 in
set_option maxHeartbeats 8000000 in
theorem valueJoin_at (la lb : List SA) (aa ab : Option Addr) (na nb : Nat) (w : World) (ha : RA w aa na la) (hb : RA w ab nb lb) :
    Calls Tryz.prog 4 #[.slice aa la.length na, .slice ab lb.length nb] w (TogPost (fun p q => p || q) (la.map SA.raw) (lb.map SA.raw) w) := by
  have hg : ∀ (p q : Bool) (W : World), Calls Tryz.prog 13 #[.bool p, .bool q] W fun e w' => e = .returned (.bool (p || q)) ∧ Below W.heap.size W w' := fun p q W => by
    cases p <;> cases q
    all_goals
      go_enter Tryz.func13, Tryz.ntmps13
      go_wp2
      go_ret
      exact ⟨rfl, Below.refl _ _⟩
  have HC := Lib.hid (combined_at la lb aa ab na nb 13 (fun p q => p || q) (enters_of Tryz.func13 (by kernel_rfl) rfl) hg rfl w ha hb)
  clear ha hb hg
  go_enter Tryz.func4, Tryz.ntmps4
  go_wp2_with fail
  refine HC.out.mono ?_
  rintro e w' hp
  have HP := Lib.hid hp
  obtain ⟨R, h1, h2, h3⟩ := hp
  split at h2
  · obtain ⟨a, n, rfl, _⟩ := h2
    clear h1 h3
    go_wp2
    go_ret2
    exact HP.out
  · subst h2
    clear h1 h3
    go_wp2
    go_ret2
    exact HP.out
set_option maxRecDepth 100000 in
set_option maxHeartbeats 8000000 in
theorem valueMeet_at (la lb : List SA) (aa ab : Option Addr) (na nb : Nat) (w : World) (ha : RA w aa na la) (hb : RA w ab nb lb) :
    Calls Tryz.prog 8 #[.slice aa la.length na, .slice ab lb.length nb] w (TogPost (fun p q => p && q) (la.map SA.raw) (lb.map SA.raw) w) := by
  have hg : ∀ (p q : Bool) (W : World), Calls Tryz.prog 16 #[.bool p, .bool q] W fun e w' => e = .returned (.bool (p && q)) ∧ Below W.heap.size W w' := fun p q W => by
    cases p <;> cases q
    all_goals
      go_enter Tryz.func16, Tryz.ntmps16
      go_wp2
      go_ret
      exact ⟨rfl, Below.refl _ _⟩
  have HC := Lib.hid (combined_at la lb aa ab na nb 16 (fun p q => p && q) (enters_of Tryz.func16 (by kernel_rfl) rfl) hg rfl w ha hb)
  clear ha hb hg
  go_enter Tryz.func8, Tryz.ntmps8
  go_wp2_with fail
  refine HC.out.mono ?_
  rintro e w' hp
  have HP := Lib.hid hp
  obtain ⟨R, h1, h2, h3⟩ := hp
  split at h2
  · obtain ⟨a, n, rfl, _⟩ := h2
    clear h1 h3
    go_wp2
    go_ret2
    exact HP.out
  · subst h2
    clear h1 h3
    go_wp2
    go_ret2
    exact HP.out
set_option maxRecDepth 100000 in
set_option maxHeartbeats 8000000 in
theorem valueWithout_at (la lb : List SA) (aa ab : Option Addr) (na nb : Nat) (w : World) (ha : RA w aa na la) (hb : RA w ab nb lb) :
    Calls Tryz.prog 10 #[.slice aa la.length na, .slice ab lb.length nb] w (TogPost (fun p q => p && !q) (la.map SA.raw) (lb.map SA.raw) w) := by
  have hg : ∀ (p q : Bool) (W : World), Calls Tryz.prog 17 #[.bool p, .bool q] W fun e w' => e = .returned (.bool (p && !q)) ∧ Below W.heap.size W w' := fun p q W => by
    cases p <;> cases q
    all_goals
      go_enter Tryz.func17, Tryz.ntmps17
      go_wp2
      go_ret
      exact ⟨rfl, Below.refl _ _⟩
  have HC := Lib.hid (combined_at la lb aa ab na nb 17 (fun p q => p && !q) (enters_of Tryz.func17 (by kernel_rfl) rfl) hg rfl w ha hb)
  clear ha hb hg
  go_enter Tryz.func10, Tryz.ntmps10
  go_wp2_with fail
  refine HC.out.mono ?_
  rintro e w' hp
  have HP := Lib.hid hp
  obtain ⟨R, h1, h2, h3⟩ := hp
  split at h2
  · obtain ⟨a, n, rfl, _⟩ := h2
    clear h1 h3
    go_wp2
    go_ret2
    exact HP.out
  · subst h2
    clear h1 h3
    go_wp2
    go_ret2
    exact HP.out
end Rg
end Go.Proofs.YtiogfdkdhfmamaaGreatDoor
namespace Go.Proofs.YtiogfdkdhfmamaaGreatDoor
open Go.RowKit
namespace Rg
set_option maxRecDepth 100000 in
set_option maxHeartbeats 8000000 in
theorem checkedTogether_at (way : Nat) (hway : way ≤ 2) (la lb : List SA) (aa ab : Option Addr) (na nb : Nat) (w : World) (ha : RA w aa na la) (hb : RA w ab nb lb) :
    Calls Tryz.prog 14 #[.int .i64 (way : Int), .slice aa la.length na, .slice ab lb.length nb] w (TogPost (wayF way) (la.map SA.raw) (lb.map SA.raw) w) := by
  obtain ⟨x, hx⟩ : ∃ z, chkR (la.map SA.raw) = z := ⟨_, rfl⟩
  obtain ⟨y, hy⟩ : ∃ z, chkR (lb.map SA.raw) = z := ⟨_, rfl⟩
  have H1 : Hid (Calls Tryz.prog 21 #[.slice aa la.length na] w fun e w' => e = .returned (.int .i64 x) ∧ Below w.heap.size w w') := Lib.hid (by rw [← hx]; exact refCheckRange_at la aa na w ha)
  have H2 : Hid (∀ V, Below w.heap.size w V → Calls Tryz.prog 21 #[.slice ab lb.length nb] V fun e w' => e = .returned (.int .i64 y) ∧ Below V.heap.size V w') := Lib.hid (fun V hV => by rw [← hy]; exact refCheckRange_at lb ab nb V (hb.ext hV))
  have H3 : Hid (x = 0 → y = 0 → la.length + lb.length ≤ 200 ∧ ∀ V, Below w.heap.size w V → Calls Tryz.prog 22 #[.int .i64 (way : Int), .slice aa la.length na, .slice ab lb.length nb] V (CombPost (wayF way) la lb V)) := Lib.hid (fun h0 h1 => by
    obtain ⟨k1, k2, k3, k4⟩ := chkR_ok (hx.trans h0)
    obtain ⟨j1, j2, j3, j4⟩ := chkR_ok (hy.trans h1)
    rw [List.length_map] at k1 j1
    exact ⟨by omega, fun V hV => together_at way hway la lb aa ab na nb V (ha.ext hV) (hb.ext hV) (by omega) (by omega) k3 j3⟩)
  have HX := Lib.hid hx
  have HY := Lib.hid hy
  clear ha hb hx hy
  go_enter Tryz.func14, Tryz.ntmps14
  go_wp2_with fail
  refine H1.out.mono ?_
  rintro e w1 ⟨rfl, hb1⟩
  by_cases h0 : x = 0
  · have HX0 := Lib.hid (HX.out.trans h0)
    have HX9 := Lib.hid h0
    subst h0
    go_wp2_with fail
    refine (H2.out _ hb1).mono ?_
    rintro e w2 ⟨rfl, hb2⟩
    have hbw2 := ext_trans hb1 hb2
    clear hb1 hb2
    by_cases h1 : y = 0
    · have HY0 := Lib.hid (HY.out.trans h1)
      obtain ⟨hlen, h3⟩ := H3.out (by trivial) h1
      have HC := Lib.hid (h3 w2 hbw2)
      subst h1
      clear h3 H3 H2 H1
      go_wp2_with fail
      refine HC.out.mono ?_
      rintro e w3 ⟨v, R, rfl, hO, hok, hT, hRl, hb3⟩
      have hbw := ext_trans hbw2 hb3
      obtain ⟨a7, c7, hv7, hn7, hm7, _⟩ := id (Sl.ofOwn hO)
      subst hv7
      have hl63 : (R.length : Int) ≤ 200 := by omega
      by_cases hc : 100 < R.length
      · have HF : Hid (TogPost (wayF way) (la.map SA.raw) (lb.map SA.raw) w (.returned (.tuple #[.slice none 0 0, .int .i64 2])) w3) := Lib.hid ⟨R, (fun _ _ => hT), (by
          have e1 : togF (la.map SA.raw) (lb.map SA.raw) R.length = 2 := by
            unfold togF; rw [if_neg (by rw [HX0.out]; simp), if_neg (by rw [HY0.out]; simp), if_pos hc]
          rw [e1, if_neg (by omega)]), hbw⟩
        have hci : (100 : Int) < (R.length : Int) := by omega
        clear hc hT hok hO hb3 hbw hbw2
        go_wp2
        go_ret2
        exact HF.out
      · have hci : ¬ (100 : Int) < (R.length : Int) := by omega
        have HF : Hid (TogPost (wayF way) (la.map SA.raw) (lb.map SA.raw) w (.returned (.tuple #[.slice a7 R.length c7, .int .i64 0])) w3) := Lib.hid ⟨R, (fun _ _ => hT), (by
          have e1 : togF (la.map SA.raw) (lb.map SA.raw) R.length = 0 := by
            unfold togF; rw [if_neg (by rw [HX0.out]; simp), if_neg (by rw [HY0.out]; simp), if_neg hc]
          rw [if_pos e1]
          exact ⟨a7, c7, rfl, Sl.ofOwn hO, fun s hs => (hok s hs).ext hb3⟩), hbw⟩
        clear hc hT hok hO hb3 hbw hbw2
        go_wp2
        go_ret2
        exact HF.out
    · have HF : Hid (TogPost (wayF way) (la.map SA.raw) (lb.map SA.raw) w (.returned (.tuple #[.slice none 0 0, .int .i64 y])) w2) := Lib.hid ⟨[], (fun _ h2 => absurd (HY.out.symm.trans h2) h1), (by
        have e1 : togF (la.map SA.raw) (lb.map SA.raw) ([] : List SA).length = y := by
          unfold togF; rw [if_neg (by rw [HX0.out]; simp), if_pos (by rw [HY.out]; exact h1), HY.out]
        rw [e1, if_neg h1]), hbw2⟩
      have hne : (y != 0) = true := by simpa using h1
      clear h1 hbw2
      go_wp2
      go_ret2
      exact HF.out
  · have HF : Hid (TogPost (wayF way) (la.map SA.raw) (lb.map SA.raw) w (.returned (.tuple #[.slice none 0 0, .int .i64 x])) w1) := Lib.hid ⟨[], (fun h2 _ => absurd (HX.out.symm.trans h2) h0), (by
      have e1 : togF (la.map SA.raw) (lb.map SA.raw) ([] : List SA).length = x := by
        unfold togF; rw [if_pos (by rw [HX.out]; exact h0), HX.out]
      rw [e1, if_neg h0]), hb1⟩
    have hne : (x != 0) = true := by simpa using h0
    clear h0 hb1
    go_wp2
    go_ret2
    exact HF.out
set_option maxRecDepth 100000 in
set_option maxHeartbeats 8000000 in
theorem refJoin_at (la lb : List SA) (aa ab : Option Addr) (na nb : Nat) (w : World) (ha : RA w aa na la) (hb : RA w ab nb lb) :
    Calls Tryz.prog 5 #[.slice aa la.length na, .slice ab lb.length nb] w (TogPost (wayF 0) (la.map SA.raw) (lb.map SA.raw) w) := by
  have HC : Hid (Calls Tryz.prog 14 #[.int .i64 0, .slice aa la.length na, .slice ab lb.length nb] w (TogPost (wayF 0) (la.map SA.raw) (lb.map SA.raw) w)) := Lib.hid (checkedTogether_at 0 (by omega) la lb aa ab na nb w ha hb)
  clear ha hb
  go_enter Tryz.func5, Tryz.ntmps5
  go_wp2_with fail
  refine HC.out.mono ?_
  rintro e w' hp
  have HP := Lib.hid hp
  obtain ⟨R, h1, h2, h3⟩ := hp
  split at h2
  · obtain ⟨a, n, rfl, _⟩ := h2
    clear h1 h3
    go_wp2
    go_ret2
    exact HP.out
  · subst h2
    clear h1 h3
    go_wp2
    go_ret2
    exact HP.out
set_option maxRecDepth 100000 in
set_option maxHeartbeats 8000000 in
theorem refMeet_at (la lb : List SA) (aa ab : Option Addr) (na nb : Nat) (w : World) (ha : RA w aa na la) (hb : RA w ab nb lb) :
    Calls Tryz.prog 9 #[.slice aa la.length na, .slice ab lb.length nb] w (TogPost (wayF 1) (la.map SA.raw) (lb.map SA.raw) w) := by
  have HC : Hid (Calls Tryz.prog 14 #[.int .i64 1, .slice aa la.length na, .slice ab lb.length nb] w (TogPost (wayF 1) (la.map SA.raw) (lb.map SA.raw) w)) := Lib.hid (checkedTogether_at 1 (by omega) la lb aa ab na nb w ha hb)
  clear ha hb
  go_enter Tryz.func9, Tryz.ntmps9
  go_wp2_with fail
  refine HC.out.mono ?_
  rintro e w' hp
  have HP := Lib.hid hp
  obtain ⟨R, h1, h2, h3⟩ := hp
  split at h2
  · obtain ⟨a, n, rfl, _⟩ := h2
    clear h1 h3
    go_wp2
    go_ret2
    exact HP.out
  · subst h2
    clear h1 h3
    go_wp2
    go_ret2
    exact HP.out
set_option maxRecDepth 100000 in
set_option maxHeartbeats 8000000 in
theorem refWithout_at (la lb : List SA) (aa ab : Option Addr) (na nb : Nat) (w : World) (ha : RA w aa na la) (hb : RA w ab nb lb) :
    Calls Tryz.prog 11 #[.slice aa la.length na, .slice ab lb.length nb] w (TogPost (wayF 2) (la.map SA.raw) (lb.map SA.raw) w) := by
  have HC : Hid (Calls Tryz.prog 14 #[.int .i64 2, .slice aa la.length na, .slice ab lb.length nb] w (TogPost (wayF 2) (la.map SA.raw) (lb.map SA.raw) w)) := Lib.hid (checkedTogether_at 2 (by omega) la lb aa ab na nb w ha hb)
  clear ha hb
  go_enter Tryz.func11, Tryz.ntmps11
  go_wp2_with fail
  refine HC.out.mono ?_
  rintro e w' hp
  have HP := Lib.hid hp
  obtain ⟨R, h1, h2, h3⟩ := hp
  split at h2
  · obtain ⟨a, n, rfl, _⟩ := h2
    clear h1 h3
    go_wp2
    go_ret2
    exact HP.out
  · subst h2
    clear h1 h3
    go_wp2
    go_ret2
    exact HP.out
end Rg
end Go.Proofs.YtiogfdkdhfmamaaGreatDoor
namespace Go.Proofs.YtiogfdkdhfmamaaGreatDoor
open Go.RowKit
namespace Rg
/-- what is answered, as lists -/
def Res (f : Bool → Bool → Bool) (x y l : List RS) (z : Int) : Prop := ∃ R, (chkR x = 0 → chkR y = 0 → TogR f x y R) ∧ z = togF x y R.length ∧ l = if z = 0 then R else []
theorem Res.unique {f : Bool → Bool → Bool} {x y l l' : List RS} {z z' : Int} (h : Res f x y l z) (h' : Res f x y l' z') : l = l' ∧ z = z' := by
  obtain ⟨R, h1, rfl, rfl⟩ := h
  obtain ⟨R', h1', rfl, rfl⟩ := h'
  by_cases hx : chkR x = 0
  · by_cases hy : chkR y = 0
    · rw [(h1 hx hy).unique (h1' hx hy)]
      exact ⟨rfl, rfl⟩
    · have e : ∀ n, togF x y n = chkR y := fun n => by unfold togF; rw [if_neg (by rw [hx]; simp), if_pos hy]
      rw [e, e, if_neg hy, if_neg hy]
      exact ⟨rfl, rfl⟩
  · have e : ∀ n, togF x y n = chkR x := fun n => by unfold togF; rw [if_pos hx]
    rw [e, e, if_neg hx, if_neg hx]
    exact ⟨rfl, rfl⟩
theorem TogPost.forms {f : Bool → Bool → Bool} {x y : List RS} {w w' : World} {e : Ending} (h : TogPost f x y w e w') :
    ∃ (S : List SA) (a : Option Addr) (n : Nat) (z : Int), e = .returned (.tuple #[.slice a S.length n, .int .i64 z]) ∧ RA w' a n S ∧ Res f x y (S.map SA.raw) z ∧ Below w.heap.size w w' := by
  obtain ⟨R, h1, h2, h3⟩ := h
  by_cases h0 : togF x y R.length = 0
  · rw [if_pos h0] at h2
    obtain ⟨a, n, he, hr⟩ := h2
    exact ⟨R, a, n, 0, he, hr, ⟨R.map SA.raw, h1, by rw [List.length_map, h0], rfl⟩, h3⟩
  · rw [if_neg h0] at h2
    exact ⟨[], none, 0, _, h2, RA.nil _, ⟨R.map SA.raw, h1, by rw [List.length_map], by rw [if_neg h0]; rfl⟩, h3⟩
set_option maxRecDepth 100000 in
set_option maxHeartbeats 8000000 in
theorem lawMrs_at (la lb : List SA) (aa ab : Option Addr) (na nb : Nat) (w : World) (ha : RA w aa na la) (hb : RA w ab nb lb) :
    Calls Tryz.prog 3 #[.slice aa la.length na, .slice ab lb.length nb] w fun e w' => e = .returned (.bool true) ∧ Below w.heap.size w w' := by
  have HA := Lib.hid ha
  have HB := Lib.hid hb
  clear ha hb
  go_enter Tryz.func3, Tryz.ntmps3
  go_wp2_with fail
  refine (valueJoin_at la lb aa ab na nb w (HA.out.ext (Below.refl _ _)) (HB.out.ext (Below.refl _ _))).mono ?_
  rintro e w1 hp
  obtain ⟨S1, a1, n1, z1, rfl, hR1, hr1, hb1⟩ := hp.forms
  have hw1 := ext_trans (Below.refl _ _) hb1
  have HR1 := Lib.hid hr1
  have HA1 := Lib.hid hR1
  clear hp hr1 hb1 hR1
  go_wp2_with fail
  refine (refJoin_at la lb aa ab na nb w1 (HA.out.ext hw1) (HB.out.ext hw1)).mono ?_
  rintro e w2 hp
  obtain ⟨S2, a2, n2, z2, rfl, hR2, hr2, hb2⟩ := hp.forms
  obtain ⟨he1, hz1⟩ := HR1.out.unique hr2
  subst hz1
  have HQ1 := Lib.hid (equalFunc_str S1 S2 a1 a2 n1 n2 w2 (HA1.out.ext hb2) hR2 he1)
  have hw2 := ext_trans hw1 hb2
  clear hp hr2 hb2 hR2 he1 hw1 HA1 HR1
  go_wp2_with fail
  refine HQ1.out.mono ?_
  rintro e w3 ⟨rfl, hb3⟩
  have hw3 := ext_trans hw2 hb3
  clear hb3 hw2 HQ1
  go_wp2_with fail
  refine (valueMeet_at la lb aa ab na nb w3 (HA.out.ext (hw3)) (HB.out.ext (hw3))).mono ?_
  rintro e w4 hp
  obtain ⟨S4, a4, n4, z4, rfl, hR4, hr4, hb4⟩ := hp.forms
  have hw4 := ext_trans (hw3) hb4
  have HR4 := Lib.hid hr4
  have HA4 := Lib.hid hR4
  clear hp hr4 hb4 hR4 hw3
  go_wp2_with fail
  refine (refMeet_at la lb aa ab na nb w4 (HA.out.ext hw4) (HB.out.ext hw4)).mono ?_
  rintro e w5 hp
  obtain ⟨S5, a5, n5, z5, rfl, hR5, hr5, hb5⟩ := hp.forms
  obtain ⟨he4, hz4⟩ := HR4.out.unique hr5
  subst hz4
  have HQ4 := Lib.hid (equalFunc_str S4 S5 a4 a5 n4 n5 w5 (HA4.out.ext hb5) hR5 he4)
  have hw5 := ext_trans hw4 hb5
  clear hp hr5 hb5 hR5 he4 hw4 HA4 HR4
  go_wp2_with fail
  refine HQ4.out.mono ?_
  rintro e w6 ⟨rfl, hb6⟩
  have hw6 := ext_trans hw5 hb6
  clear hb6 hw5 HQ4
  go_wp2_with fail
  refine (valueWithout_at la lb aa ab na nb w6 (HA.out.ext (hw6)) (HB.out.ext (hw6))).mono ?_
  rintro e w7 hp
  obtain ⟨S7, a7, n7, z7, rfl, hR7, hr7, hb7⟩ := hp.forms
  have hw7 := ext_trans (hw6) hb7
  have HR7 := Lib.hid hr7
  have HA7 := Lib.hid hR7
  clear hp hr7 hb7 hR7 hw6
  go_wp2_with fail
  refine (refWithout_at la lb aa ab na nb w7 (HA.out.ext hw7) (HB.out.ext hw7)).mono ?_
  rintro e w8 hp
  obtain ⟨S8, a8, n8, z8, rfl, hR8, hr8, hb8⟩ := hp.forms
  obtain ⟨he7, hz7⟩ := HR7.out.unique hr8
  subst hz7
  have HQ7 := Lib.hid (equalFunc_str S7 S8 a7 a8 n7 n8 w8 (HA7.out.ext hb8) hR8 he7)
  have hw8 := ext_trans hw7 hb8
  clear hp hr8 hb8 hR8 he7 hw7 HA7 HR7
  go_wp2_with fail
  refine HQ7.out.mono ?_
  rintro e w9 ⟨rfl, hb9⟩
  have hw9 := ext_trans hw8 hb9
  clear hb9 hw8 HQ7
  go_wp2
  go_ret
  exact ⟨by simp, hw9⟩
end Rg
end Go.Proofs.YtiogfdkdhfmamaaGreatDoor
