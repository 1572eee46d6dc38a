/- combined, Join, Meet and Without of package value. Printed by gen_combd.py. The walk of RangeSetsAreSets. Printed by gen_laware.py. -/
import Derived.Test.YtiogfdkdhfmamaaDoorRa09
import Derived.Test.YtiogfdkdhfmamaaDoorRa10
namespace Go.Proofs.YtiogfdkdhfmamaaDoor
open Go.RowKit
namespace Rg
open _root_.Go.Proofs.YtiogfdkdhfmamaaDoor.Nt (RH RH.cell RH.box RH.lt RH.new RH.ext RH.fre RH.set RH.other)
theorem grown_of {w w' : World} (h : Below w.heap.size w w') (r : Option Nat) : w.grownBy w' r := ⟨h.os, h.tape, h.output, h.size, fun k hk _ => h.block k hk⟩
/-- a stretch that stays when the block g is written -/
def OkG (g : Option Nat) (w : World) (s : SA) : Prop := ∀ w', w.grownBy w' g → s.ok w'
theorem OkG.now {g : Option Nat} {w : World} {s : SA} (h : OkG g w s) : s.ok w := h w (World.grownBy.refl w g)
theorem OkG.next {g : Option Nat} {w w' : World} {s : SA} (h : OkG g w s) (hg : w.grownBy w' g) : OkG g w' s := fun w'' h'' => h w'' (hg.trans h'')
theorem OkG.old {w0 w : World} {g : Nat} {s : SA} (h : s.ok w0) (hb : Below w0.heap.size w0 w) (hg : w0.heap.size ≤ g) : OkG (some g) w s := fun w' h' => h.ext (hb.grown h' hb.size (fun q hq => by cases hq; exact hg))
theorem OkG.fresh {N : Nat} {w : World} {g : Nat} {s : SA} (h : Fresh N (fun w => s.ok w) w) (hg : g < N) : OkG (some g) w s := fun w' h' => h w' (Kept.grown h' hg)
theorem str_put {S : List SA} {k : Nat} {s : SA} (hk : k < S.length) : setL (S.flatMap saL) (k * 11) (saL s) = (S.set k s).flatMap saL := by
  have e0 : S = S.take k ++ S[k] :: S.drop (k + 1) := by rw [List.getElem_cons_drop, List.take_append_drop]
  have e1 : S.flatMap saL = (S.take k).flatMap saL ++ (saL S[k] ++ (S.drop (k + 1)).flatMap saL) := by
    conv => lhs; rw [e0]
    rw [List.flatMap_append, List.flatMap_cons]
  have l1 : ((S.take k).flatMap saL).length = k * 11 := by rw [flat_length saL_len, List.length_take, Nat.min_eq_left (by omega)]
  have h1 := setL_mid (saL s) ((S.take k).flatMap saL) (saL S[k]) ((S.drop (k + 1)).flatMap saL) (by rw [saL_len, saL_len])
  rw [l1] at h1
  rw [e1, h1, List.set_eq_take_append_cons_drop, if_pos hk, List.flatMap_append, List.flatMap_cons]
theorem raw_put {S : List SA} {k : Nat} {s s' : SA} (hk : S[k]? = some s) (hr : s'.raw = s.raw) : (S.set k s').map SA.raw = S.map SA.raw := by
  rw [List.map_set, hr]
  obtain ⟨h1, rfl⟩ := List.getElem?_eq_some_iff.1 hk
  apply List.ext_getElem?
  intro j
  rw [List.getElem?_set]
  split
  · next h => subst h; simp [h1]
  · rfl
theorem pre_ok {v : Ver} (h : chkVer v = 0) : v.pre.length ≤ 100000 := by
  unfold chkVer at h
  by_cases h1 : rngOk v = false
  · rw [if_pos h1] at h; cases h
  rw [if_neg h1] at h
  by_cases h2 : 10 < v.pre.length
  · rw [if_pos h2] at h; cases h
  · omega
theorem tog_pre {f : Bool → Bool → Bool} {x y R : List RS} (h : TogR f x y R) {s : RS} (hs : s ∈ R) : s.fr.v.pre.length ≤ 100000 ∧ s.to.v.pre.length ≤ 100000 := by
  have hm : toS s ∈ R.map toS := List.mem_map_of_mem hs
  have h1 : okC s.fr := h.ok _ (List.mem_flatMap.2 ⟨toS s, hm, by simp [cutsS, toS]⟩)
  refine ⟨pre_ok h1, ?_⟩
  cases he : s.en with
  | true => rw [h.zero s hs he]; simp [zeroC]
  | false => exact pre_ok (h.ok _ (List.mem_flatMap.2 ⟨toS s, hm, by simp [cutsS, toS, he]⟩) : okC s.to)
/-- what is wrong with two ranges put together: n stretches -/
def togF (x y : List RS) (n : Nat) : Int := if chkR x ≠ 0 then chkR x else if chkR y ≠ 0 then chkR y else if 100 < n then 2 else 0
/-- what putting two ranges together answers -/
def TogPost (f : Bool → Bool → Bool) (x y : List RS) (w : World) (e : Ending) (w' : World) : Prop :=
  ∃ R : List SA, (chkR x = 0 → chkR y = 0 → TogR f x y (R.map SA.raw)) ∧ (if togF x y R.length = 0 then ∃ a n, e = .returned (.tuple #[.slice a R.length n, .int .i64 0]) ∧ RA w' a n R else e = .returned (.tuple #[.slice none 0 0, .int .i64 (togF x y R.length)])) ∧ Below w.heap.size w w'
set_option maxRecDepth 100000 in
set_option maxHeartbeats 8000000 in
theorem checkRanges_at (la lb : List SA) (aa ab : Option Addr) (na nb : Nat) (w : World) (ha : RA w aa na la) (hb : RA w ab nb lb) :
    Calls Tryd.prog 28 #[.slice aa la.length na, .slice ab lb.length nb] w fun e w' => e = .returned (.int .i64 (if chkR (la.map SA.raw) ≠ 0 then chkR (la.map SA.raw) else chkR (lb.map SA.raw))) ∧ Below w.heap.size w w' := by
  have HA := Lib.hid ha
  have HB := Lib.hid hb
  obtain ⟨x, hx⟩ : ∃ z, chkR (la.map SA.raw) = z := ⟨_, rfl⟩
  obtain ⟨y, hy⟩ : ∃ z, chkR (lb.map SA.raw) = z := ⟨_, rfl⟩
  have H1 : Hid (Calls Tryd.prog 11 #[.slice aa la.length na] w fun e w' => e = .returned (.int .i64 x) ∧ Below w.heap.size w w') := Lib.hid (by rw [← hx]; exact checkRange_at la aa na w HA.out)
  have H2 : Hid (∀ V, Below w.heap.size w V → Calls Tryd.prog 11 #[.slice ab lb.length nb] V fun e w' => e = .returned (.int .i64 y) ∧ Below V.heap.size V w') := Lib.hid (fun V hV => by rw [← hy]; exact checkRange_at lb ab nb V (HB.out.ext hV))
  rw [hx, hy]
  obtain ⟨r, hr⟩ : ∃ z, (if x ≠ 0 then x else y) = z := ⟨_, rfl⟩
  rw [hr]
  have HR := Lib.hid hr
  clear ha hb HA HB hx hy hr
  go_enter Tryd.func28, Tryd.ntmps28
  go_wp2_with fail
  refine H1.out.mono ?_
  rintro e w1 ⟨rfl, hb1⟩
  by_cases h0 : x = 0
  · subst h0
    have HR : Hid (y = r) := Lib.hid (by rw [← HR.out, if_neg (by simp)])
    go_wp2_with fail
    refine (H2.out _ hb1).mono ?_
    rintro e w2 ⟨rfl, hb2⟩
    have hb3 := ext_trans hb1 hb2
    clear hb1 hb2
    go_wp2
    go_ret
    exact ⟨ret_int HR.out, hb3⟩
  · have HR : Hid (x = r) := Lib.hid (by rw [← HR.out, if_pos h0])
    have hne : (x != 0) = true := by simpa using h0
    clear h0
    go_wp2
    go_ret
    exact ⟨ret_int HR.out, hb1⟩
set_option maxRecDepth 100000 in
set_option maxHeartbeats 8000000 in
theorem combined_at (la lb : List SA) (aa ab : Option Addr) (na nb : Nat) (g : Nat) (f : Bool → Bool → Bool) (eg : ∀ args w, (callFunc g args).run Tryd.prog w = .ok (.enter g args) w)
    (hg : ∀ p q W, Calls Tryd.prog g #[.bool p, .bool q] W fun e w' => e = .returned (.bool (f p q)) ∧ Below W.heap.size W w') (hff : f false false = false) (w : World) (ha : RA w aa na la) (hb : RA w ab nb lb) :
    Calls Tryd.prog 15 #[.slice aa la.length na, .slice ab lb.length nb, .func (.func g) #[] #[]] w (TogPost f (la.map SA.raw) (lb.map SA.raw) w) := by
  obtain ⟨x, hx⟩ : ∃ z, chkR (la.map SA.raw) = z := ⟨_, rfl⟩
  obtain ⟨y, hy⟩ : ∃ z, chkR (lb.map SA.raw) = z := ⟨_, rfl⟩
  have H1 : Hid (Calls Tryd.prog 28 #[.slice aa la.length na, .slice ab lb.length nb] w fun e w' => e = .returned (.int .i64 (if x ≠ 0 then x else y)) ∧ Below w.heap.size w w') := Lib.hid (by rw [← hx, ← hy]; exact checkRanges_at la lb aa ab na nb w ha hb)
  have H2 : Hid (x = 0 → y = 0 → ∀ V, Below w.heap.size w V → Calls Tryd.prog 29 #[.slice aa la.length na, .slice ab lb.length nb, .func (.func g) #[] #[]] V (CombPost f la lb V)) := Lib.hid (fun h0 h1 V hV => by
    obtain ⟨k1, k2, k3, k4⟩ := chkR_ok (hx.trans h0)
    obtain ⟨j1, j2, j3, j4⟩ := chkR_ok (hy.trans h1)
    rw [List.length_map] at k1 j1
    exact combine_at la lb aa ab na nb g f eg hg hff V (ha.ext hV) (hb.ext hV) (by omega) (by omega) k3 j3)
  have HX := Lib.hid hx
  have HY := Lib.hid hy
  clear ha hb hx hy hg eg
  obtain ⟨r, hr⟩ : ∃ z, (if x ≠ 0 then x else y) = z := ⟨_, rfl⟩
  rw [hr] at H1
  have HLR : Hid (x = 0 → y = 0 → la.length + lb.length ≤ 200) := Lib.hid (fun h0 h1 => by
    obtain ⟨k1, _⟩ := chkR_ok (HX.out.trans h0)
    obtain ⟨j1, _⟩ := chkR_ok (HY.out.trans h1)
    rw [List.length_map] at k1 j1
    omega)
  have HR := Lib.hid hr
  clear hr
  go_enter Tryd.func15, Tryd.ntmps15
  go_wp2_with fail
  refine H1.out.mono ?_
  rintro e w1 ⟨rfl, hb1⟩
  by_cases h0 : r = 0
  · subst h0
    have hxy : x = 0 ∧ y = 0 := by
      have h0 := HR.out
      by_cases h : x = 0
      · rw [h] at h0; simp at h0; exact ⟨h, h0⟩
      · rw [if_pos h] at h0; exact absurd h0 h
    have HC := Lib.hid (H2.out hxy.1 hxy.2 w1 hb1)
    have hLR := HLR.out hxy.1 hxy.2
    have HX0 := Lib.hid (HX.out.trans hxy.1)
    have HY0 := Lib.hid (HY.out.trans hxy.2)
    clear H2 HLR hxy HX HY HR
    go_wp2_with fail
    refine HC.out.mono ?_
    rintro e w2 ⟨v, R, rfl, hO, hok, hT, hRl, hb2⟩
    have HT := Lib.hid hT
    have hbw := ext_trans hb1 hb2
    have hlen : (R.length : Int) ≤ 200 := by omega
    have HOK := Lib.hid hok
    clear hT hRl HC hLR hok
    obtain ⟨a7, c7, hv7, hn7, hm7, _⟩ := Sl.ofOwn hO
    subst hv7
    by_cases hc : 100 < R.length
    · have HF : Hid (TogPost f (la.map SA.raw) (lb.map SA.raw) w (.returned (.tuple #[.slice none 0 0, .int .i64 2])) w2) := Lib.hid ⟨R, (fun _ _ => HT.out), (by
        have e1 : togF (la.map SA.raw) (lb.map SA.raw) R.length = 2 := by
          unfold togF; rw [if_neg (by rw [HX0.out]; simp), if_neg (by rw [HY0.out]; simp), if_pos hc]
        rw [e1, if_neg (by omega)]), hbw⟩
      have hci : (100 : Int) < (R.length : Int) := by omega
      clear hc HT HOK hO hb1 hb2 hbw
      go_wp2
      go_ret2
      exact HF.out
    · have hci : ¬ (100 : Int) < (R.length : Int) := by omega
      have HZ : Hid (togF (la.map SA.raw) (lb.map SA.raw) R.length = 0) := Lib.hid (by
        unfold togF; rw [if_neg (by rw [HX0.out]; simp), if_neg (by rw [HY0.out]; simp), if_neg hc])
      clear hc
      go_wp2
      go_loopw [27] (fun i wr => ∃ (k : Nat) (S : List SA), k ≤ R.length ∧ i = .int .i64 (k : Int) ∧ Hid (S.length = R.length) ∧ Hid (S.map SA.raw = R.map SA.raw) ∧ Hid (wr.ownsRow w1.heap.size 35 11 (.slice a7 R.length c7) R.length (S.flatMap saL)) ∧ Hid (∀ s ∈ S, OkG (Value.slice a7 R.length c7).ownBlock wr s) ∧ Below w1.heap.size w1 wr) (fun i _ => R.length - (intOf i).toNat)
      case atStart => exact ⟨0, R, by omega, rfl, rfl, rfl, Lib.hid hO, Lib.hid (fun s hs => by
        have hR0 : 0 < R.length := List.length_pos_of_mem hs
        obtain ⟨g7, cap, hv, hg1, hg2⟩ := hO.form hR0
        rw [hv]
        exact OkG.old (HOK.out s hs) hb2 hg1), hb2⟩
      case round =>
        obtain ⟨k, S, hk, rfl, HSL, HSR, HO, HSO, hw⟩ := hrel
        generalize hX : wr = X at *
        clear hX hO hb2 hbw
        by_cases hlt : k < R.length
        · have hkS : k < S.length := by rw [HSL.out]; exact hlt
          obtain ⟨s, hs⟩ : ∃ s, S[k]? = some s := ⟨_, List.getElem?_eq_getElem hkS⟩
          have HKS := Lib.hid hkS
          obtain ⟨g7, cap, hv, hg1, hg2⟩ := HO.out.form (by omega)
          cases hv
          have hOX := HO.out
          have hcell : ∀ (j : Nat) (x : Value), (saL s)[j]? = some x → X.cell? ⟨g7, k * 11 + j, none⟩ = some x := fun j x hx => by
            have hj : j < 11 := by have := (List.getElem?_eq_some_iff.1 hx).1; rwa [saL_len] at this
            rw [hOX.cellAt (k * 11 + j) (by omega)]
            exact flat_get saL_len S k s hs j x hx
          have hki : (k : Int) < (R.length : Int) := by omega
          have HSO2 : Hid (OkG (some g7) X s) := Lib.hid (HSO.out s (List.mem_of_getElem? hs))
          have hpre := tog_pre HT.out (s := s.raw) (by rw [← HSR.out]; exact List.mem_map_of_mem (List.mem_of_getElem? hs))
          have HPRE := Lib.hid hpre
          have HKSg := Lib.hid hs
          clear hpre hs hkS hOX
          go_upto_region 10 with (first | (refine wpList_load_agg rfl _ _ rfl g7 (k * 11) (by rfl) (saL s) hcell _ Tryd.underlying35 rfl (sa_info s) ?_) | (refine wpList_store_row rfl _ _ _ rfl X.heap.size (saL s).toArray rfl rfl _ _ (Nt.RH.new _ _ _) (sa_info s) rfl (sa_all s) ?_))
          refine wp_stored fun W hbW hR => ?_
          have hXb : g7 < X.heap.size := hg2
          have hOW := ownsRow_ext HO.out hbW
          have hwW := hw.trans (hbW.mono hw.size)
          have HCS := Lib.hid (copyStretch_at s W ((HSO2.out.now).ext hbW) HPRE.out.1 HPRE.out.2)
          have hbs : X.heap.size < W.heap.size := hR.lt
          have HBW := Lib.hid hbW
          have HBX := Lib.hid hXb
          have HW1 := Lib.hid hw.size
          clear hbW hw HSO2 HPRE hcell hg2
          generalize hb : X.heap.size = b at *
          have HXB := Lib.hid hb
          clear hb
          go_wp2_with (refine wpList_load_agg rfl _ _ rfl b 0 (by rfl) (saL s) (fun j v hj => by rw [Nat.zero_add, hR.cell]; exact (List.getElem?_toArray).trans hj) _ Tryd.underlying35 rfl (sa_info s) ?_)
          refine HCS.out.mono ?_
          rintro e w3 ⟨s', rfl, hraw, hfr, hb3⟩
          have hO3 := ownsRow_ext hOW hb3
          have hg13 : w1.heap.size ≤ w3.heap.size := Nat.le_trans hwW.size (by first | exact hb3.size | omega)
          have hw3 := hwW.trans (hb3.mono hwW.size)
          have HRAW := Lib.hid hraw
          have HFR := Lib.hid hfr
          have HB3 := Lib.hid hb3
          have hkb : k * 11 + (saL s').length ≤ R.length * 11 := by rw [saL_len]; omega
          clear hOW hwW hR hraw hfr hb3
          go_upto_region 11 with (refine wpList_store_own rfl _ _ _ rfl g7 (k * 11) (.agg (saL s').toArray) (saL s') (by rfl) rfl rfl w1.heap.size _ 11 _ c7 _ hO3 hkb (sa_info s') (saL_one s') ?_; intro w4 hO4 hg4)
          have hO5 := Lib.hid hO4
          have hw4 : Below w1.heap.size w1 w4 := hw3.grown hg4 hg13 (fun q hq => by cases hq; exact hg1)
          have HG4 := Lib.hid hg4
          clear hO3 hO4 hg4 hw3
          go_wp2
          go_roundw
          case rel => exact ⟨k + 1, S.set k s', by omega, by go_num, Lib.hid (by rw [List.length_set]; exact HSL.out), Lib.hid (by rw [raw_put HKSg.out HRAW.out]; exact HSR.out), Lib.hid (by rw [← str_put HKS.out]; exact hO5.out), Lib.hid (fun q hq => by
            have hWg : g7 < W.heap.size := Nat.lt_trans HBX.out hbs
            rcases List.mem_or_eq_of_mem_set hq with h | rfl
            · exact (HSO.out q h).next ((grown_of (by rw [HXB.out]; exact HBW.out) _).trans ((grown_of HB3.out _).trans HG4.out))
            · exact OkG.fresh (HFR.out.kept HG4.out.size (Kept.grown HG4.out hWg)) hWg), hw4⟩
          case measure => simp [intOf]; omega
        · have HF : Hid (TogPost f (la.map SA.raw) (lb.map SA.raw) w (.returned (.tuple #[.slice a7 R.length c7, .int .i64 0])) X) := Lib.hid ⟨S, (fun _ _ => by rw [HSR.out]; exact HT.out), (by
            rw [HSL.out, if_pos HZ.out]
            exact ⟨a7, c7, rfl, by rw [HSL.out]; exact Sl.ofOwn HO.out, fun s hs => (HSO.out s hs).now⟩), ext_trans hb1 hw⟩
          clear HO HSO HSL HSR hw
          go_wp2
          go_ret2
          exact HF.out
  · have HF : Hid (TogPost f (la.map SA.raw) (lb.map SA.raw) w (.returned (.tuple #[.slice none 0 0, .int .i64 r])) w1) := Lib.hid ⟨[], (fun h1 h2 => by
      exfalso
      have h3 := HX.out.symm.trans h1
      have h4 := HY.out.symm.trans h2
      have h5 := HR.out
      rw [if_neg (by rw [h3]; simp), h4] at h5
      exact h0 h5.symm), (by
      have e1 : togF (la.map SA.raw) (lb.map SA.raw) ([] : List SA).length = r := by
        unfold togF
        rw [HX.out, HY.out, ← HR.out]
        by_cases h1 : x ≠ 0
        · rw [if_pos h1, if_pos h1]
        · rw [if_neg h1, if_neg h1]
          by_cases h2 : y ≠ 0
          · rw [if_pos h2]
          · exfalso
            apply h0
            rw [← HR.out, if_neg h1]
            exact Classical.not_not.1 h2
      rw [e1, if_neg h0]), hb1⟩
    have hne : (r != 0) = true := by simpa using h0
    clear h0 H1 H2 hb1
    go_wp2
    go_ret2
    exact HF.out
set_option maxRecDepth 100000 in
set_option maxHeartbeats 8000000 in
theorem valueJoin_at (la lb : List SA) (aa ab : Option Addr) (na nb : Nat) (w : World) (ha : RA w aa na la) (hb : RA w ab nb lb) :
    Calls Tryd.prog 5 #[.slice aa la.length na, .slice ab lb.length nb] w (TogPost (fun p q => p || q) (la.map SA.raw) (lb.map SA.raw) w) := by
  have hg : ∀ (p q : Bool) (W : World), Calls Tryd.prog 16 #[.bool p, .bool q] W fun e w' => e = .returned (.bool (p || q)) ∧ Below W.heap.size W w' := fun p q W => by
    cases p <;> cases q
    all_goals
      go_enter Tryd.func16, Tryd.ntmps16
      go_wp2
      go_ret
      exact ⟨rfl, Below.refl _ _⟩
  have HC := Lib.hid (combined_at la lb aa ab na nb 16 (fun p q => p || q) (enters_of Tryd.func16 (by kernel_rfl) rfl) hg rfl w ha hb)
  clear ha hb hg
  go_enter Tryd.func5, Tryd.ntmps5
  go_wp2_with fail
  refine HC.out.mono ?_
  rintro e w' hp
  have HP := Lib.hid hp
  obtain ⟨R, h1, h2, h3⟩ := hp
  split at h2
  · obtain ⟨a, n, rfl, _⟩ := h2
    clear h1 h3
    go_wp2
    go_ret2
    exact HP.out
  · subst h2
    clear h1 h3
    go_wp2
    go_ret2
    exact HP.out
set_option maxRecDepth 100000 in
set_option maxHeartbeats 8000000 in
theorem valueMeet_at (la lb : List SA) (aa ab : Option Addr) (na nb : Nat) (w : World) (ha : RA w aa na la) (hb : RA w ab nb lb) :
    Calls Tryd.prog 6 #[.slice aa la.length na, .slice ab lb.length nb] w (TogPost (fun p q => p && q) (la.map SA.raw) (lb.map SA.raw) w) := by
  have hg : ∀ (p q : Bool) (W : World), Calls Tryd.prog 17 #[.bool p, .bool q] W fun e w' => e = .returned (.bool (p && q)) ∧ Below W.heap.size W w' := fun p q W => by
    cases p <;> cases q
    all_goals
      go_enter Tryd.func17, Tryd.ntmps17
      go_wp2
      go_ret
      exact ⟨rfl, Below.refl _ _⟩
  have HC := Lib.hid (combined_at la lb aa ab na nb 17 (fun p q => p && q) (enters_of Tryd.func17 (by kernel_rfl) rfl) hg rfl w ha hb)
  clear ha hb hg
  go_enter Tryd.func6, Tryd.ntmps6
  go_wp2_with fail
  refine HC.out.mono ?_
  rintro e w' hp
  have HP := Lib.hid hp
  obtain ⟨R, h1, h2, h3⟩ := hp
  split at h2
  · obtain ⟨a, n, rfl, _⟩ := h2
    clear h1 h3
    go_wp2
    go_ret2
    exact HP.out
  · subst h2
    clear h1 h3
    go_wp2
    go_ret2
    exact HP.out
set_option maxRecDepth 100000 in
set_option maxHeartbeats 8000000 in
theorem valueWithout_at (la lb : List SA) (aa ab : Option Addr) (na nb : Nat) (w : World) (ha : RA w aa na la) (hb : RA w ab nb lb) :
    Calls Tryd.prog 7 #[.slice aa la.length na, .slice ab lb.length nb] w (TogPost (fun p q => p && !q) (la.map SA.raw) (lb.map SA.raw) w) := by
  have hg : ∀ (p q : Bool) (W : World), Calls Tryd.prog 18 #[.bool p, .bool q] W fun e w' => e = .returned (.bool (p && !q)) ∧ Below W.heap.size W w' := fun p q W => by
    cases p <;> cases q
    all_goals
      go_enter Tryd.func18, Tryd.ntmps18
      go_wp2
      go_ret
      exact ⟨rfl, Below.refl _ _⟩
  have HC := Lib.hid (combined_at la lb aa ab na nb 18 (fun p q => p && !q) (enters_of Tryd.func18 (by kernel_rfl) rfl) hg rfl w ha hb)
  clear ha hb hg
  go_enter Tryd.func7, Tryd.ntmps7
  go_wp2_with fail
  refine HC.out.mono ?_
  rintro e w' hp
  have HP := Lib.hid hp
  obtain ⟨R, h1, h2, h3⟩ := hp
  split at h2
  · obtain ⟨a, n, rfl, _⟩ := h2
    clear h1 h3
    go_wp2
    go_ret2
    exact HP.out
  · subst h2
    clear h1 h3
    go_wp2
    go_ret2
    exact HP.out
end Rg
end Go.Proofs.YtiogfdkdhfmamaaDoor
namespace Go.Proofs.YtiogfdkdhfmamaaDoor
open Go.RowKit
namespace Rg
open _root_.Go.Proofs.YtiogfdkdhfmamaaDoor.Nt (RH RH.cell RH.box RH.lt RH.new RH.ext RH.fre RH.set RH.other)
theorem TogPost.two {f : Bool → Bool → Bool} {x y : List RS} {w w' : World} {e : Ending} (h : TogPost f x y w e w') (hx : chkR x = 0) (hy : chkR y = 0) :
    ∃ (R : List SA) (z : Int) (a : Option Addr) (k n : Nat), e = .returned (.tuple #[.slice a k n, .int .i64 z]) ∧ TogR f x y (R.map SA.raw) ∧ (z = 0 → k = R.length ∧ RA w' a n R ∧ R.length ≤ 100) ∧ (z ≠ 0 → z = 2 ∧ 100 < R.length) ∧ Below w.heap.size w w' := by
  obtain ⟨R, h1, h2, h3⟩ := h
  have hz : togF x y R.length = if 100 < R.length then 2 else 0 := by
    unfold togF; rw [if_neg (by rw [hx]; simp), if_neg (by rw [hy]; simp)]
  by_cases h0 : 100 < R.length
  · rw [if_pos h0] at hz
    rw [hz, if_neg (by omega)] at h2
    exact ⟨R, 2, none, 0, 0, h2, h1 hx hy, (fun h => by omega), (fun _ => ⟨rfl, h0⟩), h3⟩
  · rw [if_neg h0] at hz
    rw [hz, if_pos rfl] at h2
    obtain ⟨a, n, he, hr⟩ := h2
    exact ⟨R, 0, a, R.length, n, he, h1 hx hy, (fun _ => ⟨rfl, hr, by omega⟩), (fun h => absurd rfl h), h3⟩
theorem wi_ok {v : Ver} {l : List RS} (h : wiF v l = 0) : chkVer v = 0 ∧ chkR l = 0 ∧ wiB v l = inR v l := by
  have h2 : wiB v l = inR v l := by unfold wiB; rw [if_pos h]
  unfold wiF at h
  by_cases h1 : chkVer v ≠ 0
  · rw [if_pos h1] at h; exact absurd h h1
  · rw [if_neg h1] at h; exact ⟨Classical.not_not.1 h1, h, h2⟩
theorem wi_tog {f : Bool → Bool → Bool} {x y R : List RS} {v : Ver} (h : TogR f x y R) (hl : R.length ≤ 100) (hx : wiF v x = 0) (hy : wiF v y = 0) : wiF v R = 0 ∧ wiB v R = f (wiB v x) (wiB v y) := by
  obtain ⟨a1, a2, a3⟩ := wi_ok hx
  obtain ⟨b1, b2, b3⟩ := wi_ok hy
  have h0 : wiF v R = 0 := by unfold wiF; rw [if_neg (by rw [a1]; simp), h.chk hl]
  refine ⟨h0, ?_⟩
  rw [(wi_ok h0).2.2, a3, b3]
  exact h.cov _
set_option maxRecDepth 100000 in
set_option maxHeartbeats 16000000 in
theorem lawAre_at (la lb : List SA) (aa ab : Option Addr) (na nb : Nat) (x : CA) (w : World) (ha : RA w aa na la) (hb : RA w ab nb lb) (hx : x.ok w) :
    Calls Tryd.prog 3 #[.slice aa la.length na, .slice ab lb.length nb, .agg (vaL x).toArray] w fun e w' => e = .returned (.bool true) ∧ Below w.heap.size w w' := by
  have HA := Lib.hid ha
  have HB := Lib.hid hb
  obtain ⟨v, hv⟩ : ∃ v, x.c.v = v := ⟨_, rfl⟩
  have HW : Hid (∀ (l : List SA) (a : Option Addr) (n : Nat) (V : World), RA V a n l → Below w.heap.size w V → Calls Tryd.prog 4 #[.agg (vaL x).toArray, .slice a l.length n] V fun e w' => e = .returned (.tuple #[.bool (wiB v (l.map SA.raw)), .int .i64 (wiF v (l.map SA.raw))]) ∧ Below V.heap.size V w') := Lib.hid (fun l a n V h hV => by
    rw [← hv]; exact within_at l x a n V h (hx.ext hV))
  clear ha hb hx hv
  go_enter Tryd.func3, Tryd.ntmps3
  go_upto_region 1 with (fail)
  refine Nt.wp_row1 fun W hbW hR => ?_
  generalize hb : w.heap.size = b at *
  have HXB := Lib.hid hb
  clear hb
  have hS : b ≤ W.heap.size := Nat.le_of_lt hR.lt
  obtain ⟨a0, a1, a2, a3⟩ := va_cells hR
  go_wp2_with fail
  refine (HW.out la aa na W (HA.out.ext (by rw [HXB.out]; exact hbW)) hbW).mono ?_
  rintro e w1 ⟨rfl, hb1⟩
  have hw1 := hbW.trans (hb1.mono hS)
  have hS1 : b ≤ w1.heap.size := Nat.le_trans hS hb1.size
  replace hR := hR.ext hb1
  clear a0 a1 a2 a3 hb1 hbW hS
  obtain ⟨a0, a1, a2, a3⟩ := va_cells hR
  go_wp2_with fail
  refine (HW.out lb ab nb w1 (HB.out.ext (by rw [HXB.out]; exact hw1)) hw1).mono ?_
  rintro e w2 ⟨rfl, hb2⟩
  have hw2 := hw1.trans (hb2.mono hS1)
  have hS2 : b ≤ w2.heap.size := Nat.le_trans hS1 hb2.size
  replace hR := hR.ext hb2
  clear a0 a1 a2 a3 hb2 hw1 hS1
  obtain ⟨a0, a1, a2, a3⟩ := va_cells hR
  obtain ⟨pA, hpA⟩ : ∃ z, wiF v (la.map SA.raw) = z := ⟨_, rfl⟩
  obtain ⟨pB, hpB⟩ : ∃ z, wiF v (lb.map SA.raw) = z := ⟨_, rfl⟩
  obtain ⟨iA, hiA⟩ : ∃ z, wiB v (la.map SA.raw) = z := ⟨_, rfl⟩
  obtain ⟨iB, hiB⟩ : ∃ z, wiB v (lb.map SA.raw) = z := ⟨_, rfl⟩
  have HPA := Lib.hid hpA
  have HPB := Lib.hid hpB
  have HIA := Lib.hid hiA
  have HIB := Lib.hid hiB
  rw [hpA, hpB, hiA, hiB]
  clear hpA hpB hiA hiB
  by_cases h0 : pA = 0
  · subst h0
    by_cases h1 : pB = 0
    · subst h1
      have hkA := (wi_ok HPA.out).2.1
      have hkB := (wi_ok HPB.out).2.1
      have HKA := Lib.hid hkA
      have HKB := Lib.hid hkB
      clear hkA hkB
      go_wp2_with fail
      refine (valueJoin_at la lb aa ab na nb w2 (HA.out.ext (by rw [HXB.out]; exact hw2)) (HB.out.ext (by rw [HXB.out]; exact hw2))).mono ?_
      rintro e w3 hp
      obtain ⟨R1, z1, c1, k1, n1, rfl, hT1, hz1, hn1, hb3⟩ := hp.two HKA.out HKB.out
      have HT1 := Lib.hid hT1
      have HZ1 := Lib.hid hz1
      have HN1 := Lib.hid hn1
      clear hT1 hz1 hn1
      have hw3 := hw2.trans (hb3.mono hS2)
      have hS3 : b ≤ w3.heap.size := Nat.le_trans hS2 hb3.size
      replace hR := hR.ext hb3
      clear a0 a1 a2 a3 hb3 hw2 hS2
      obtain ⟨a0, a1, a2, a3⟩ := va_cells hR
      go_wp2_with fail
      refine (valueMeet_at la lb aa ab na nb w3 (HA.out.ext (by rw [HXB.out]; exact hw3)) (HB.out.ext (by rw [HXB.out]; exact hw3))).mono ?_
      rintro e w4 hp
      obtain ⟨R2, z2, c2, k2, n2, rfl, hT2, hz2, hn2, hb4⟩ := hp.two HKA.out HKB.out
      have HT2 := Lib.hid hT2
      have HZ2 := Lib.hid hz2
      have HN2 := Lib.hid hn2
      have HB4 := Lib.hid hb4
      clear hT2 hz2 hn2
      have hw4 := hw3.trans (hb4.mono hS3)
      have hS4 : b ≤ w4.heap.size := Nat.le_trans hS3 hb4.size
      replace hR := hR.ext hb4
      clear a0 a1 a2 a3 hb4 hw3 hS3
      obtain ⟨a0, a1, a2, a3⟩ := va_cells hR
      go_wp2_with fail
      refine (valueWithout_at la lb aa ab na nb w4 (HA.out.ext (by rw [HXB.out]; exact hw4)) (HB.out.ext (by rw [HXB.out]; exact hw4))).mono ?_
      rintro e w5 hp
      obtain ⟨R3, z3, c3, k3, n3, rfl, hT3, hz3, hn3, hb5⟩ := hp.two HKA.out HKB.out
      have HT3 := Lib.hid hT3
      have HZ3 := Lib.hid hz3
      have HN3 := Lib.hid hn3
      have HB5 := Lib.hid hb5
      clear hT3 hz3 hn3
      have hw5 := hw4.trans (hb5.mono hS4)
      have hS5 : b ≤ w5.heap.size := Nat.le_trans hS4 hb5.size
      replace hR := hR.ext hb5
      clear a0 a1 a2 a3 hb5 hw4 hS4
      obtain ⟨a0, a1, a2, a3⟩ := va_cells hR
      have HFIN : Hid (Below w.heap.size w w5) := Lib.hid (by rw [HXB.out]; exact hw5)
      by_cases h1 : z1 = 0
      · subst h1
        by_cases h2 : z2 = 0
        · subst h2
          by_cases h3 : z3 = 0
          · subst h3
            obtain ⟨rfl, hR1, hl1⟩ := HZ1.out rfl
            obtain ⟨rfl, hR2, hl2⟩ := HZ2.out rfl
            obtain ⟨rfl, hR3, hl3⟩ := HZ3.out rfl
            have HR1 := Lib.hid ((hR1.ext HB4.out).ext HB5.out)
            have HR2 := Lib.hid (hR2.ext HB5.out)
            have HR3 := Lib.hid hR3
            have HK2 := Lib.hid (HT2.out.chk (by rw [List.length_map]; exact hl2))
            have HK3 := Lib.hid (HT3.out.chk (by rw [List.length_map]; exact hl3))
            obtain ⟨f1, g1⟩ := wi_tog HT1.out (by rw [List.length_map]; exact hl1) HPA.out HPB.out
            obtain ⟨f2, g2⟩ := wi_tog HT2.out (by rw [List.length_map]; exact hl2) HPA.out HPB.out
            obtain ⟨f3, g3⟩ := wi_tog HT3.out (by rw [List.length_map]; exact hl3) HPA.out HPB.out
            rw [HIA.out, HIB.out] at g1 g2 g3
            have HW1 : Hid (∀ V, Below w5.heap.size w5 V → Calls Tryd.prog 4 #[.agg (vaL x).toArray, .slice c1 R1.length n1] V fun e w' => e = .returned (.tuple #[.bool (iA || iB), .int .i64 0]) ∧ Below V.heap.size V w') := Lib.hid (fun V hV => by
              have h9 := HW.out R1 c1 n1 V (HR1.out.ext hV) (hw5.trans (hV.mono hS5))
              rw [f1, g1] at h9
              exact h9)
            have HW2 : Hid (∀ V, Below w5.heap.size w5 V → Calls Tryd.prog 4 #[.agg (vaL x).toArray, .slice c2 R2.length n2] V fun e w' => e = .returned (.tuple #[.bool (iA && iB), .int .i64 0]) ∧ Below V.heap.size V w') := Lib.hid (fun V hV => by
              have h9 := HW.out R2 c2 n2 V (HR2.out.ext hV) (hw5.trans (hV.mono hS5))
              rw [f2, g2] at h9
              exact h9)
            have HW3 : Hid (∀ V, Below w5.heap.size w5 V → Calls Tryd.prog 4 #[.agg (vaL x).toArray, .slice c3 R3.length n3] V fun e w' => e = .returned (.tuple #[.bool (iA && !iB), .int .i64 0]) ∧ Below V.heap.size V w') := Lib.hid (fun V hV => by
              have h9 := HW.out R3 c3 n3 V (HR3.out.ext hV) (hw5.trans (hV.mono hS5))
              rw [f3, g3] at h9
              exact h9)
            clear f1 g1 f2 g2 f3 g3 hR1 hR2 hR3 hl1 hl2 hl3 HZ1 HZ2 HZ3 HN1 HN2 HN3 HW HT1
            have hw5 : Below w5.heap.size w5 w5 := Below.refl _ _
            go_wp2_with fail
            refine (HW1.out _ hw5).mono ?_
            rintro e w6 ⟨rfl, hb6⟩
            have hw6 := ext_trans hw5 hb6
            replace hR := hR.ext hb6
            clear a0 a1 a2 a3 hb6 hw5
            obtain ⟨a0, a1, a2, a3⟩ := va_cells hR
            go_wp2_with fail
            refine (HW2.out _ hw6).mono ?_
            rintro e w7 ⟨rfl, hb7⟩
            have hw7 := ext_trans hw6 hb7
            replace hR := hR.ext hb7
            clear a0 a1 a2 a3 hb7 hw6
            obtain ⟨a0, a1, a2, a3⟩ := va_cells hR
            go_wp2_with fail
            refine (HW3.out _ hw7).mono ?_
            rintro e w8 ⟨rfl, hb8⟩
            have hw8 := ext_trans hw7 hb8
            replace hR := hR.ext hb8
            clear a0 a1 a2 a3 hb8 hw7
            obtain ⟨a0, a1, a2, a3⟩ := va_cells hR
            have HJ := Lib.hid (valueJoin_at R2 R3 c2 c3 n2 n3 w8 (HR2.out.ext hw8) (HR3.out.ext hw8))
            clear a0 a1 a2 a3 hR
            cases iA <;> cases iB
            all_goals
              go_wp2_with fail
              refine HJ.out.mono ?_
              rintro e w9 hp
              obtain ⟨R4, z4, c4, k4, n4, rfl, hT4, hz4, hn4, hb9⟩ := hp.two HK2.out HK3.out
              have he4 : R4.map SA.raw = la.map SA.raw := whole_is HKA.out HT2.out HT3.out hT4
              have hl4 : R4.length ≤ 100 := by
                have h8 := congrArg List.length he4
                simp only [List.length_map] at h8
                obtain ⟨h7, _⟩ := chkR_ok HKA.out
                rw [List.length_map] at h7
                omega
              have hz0 : z4 = 0 := Classical.byContradiction fun h => by have := (hn4 h).2; omega
              subst hz0
              obtain ⟨rfl, hR4, _⟩ := hz4 rfl
              have hw9 := ext_trans hw8 hb9
              have HEQ := Lib.hid (equalFunc_str R4 la c4 aa n4 na w9 hR4 (HA.out.ext (by have := ext_trans HFIN.out hw9; exact this)) he4)
              clear hT4 hz4 hn4 hb9 he4 hl4 hR4
              go_wp2_with fail
              refine HEQ.out.mono ?_
              rintro e w10 ⟨rfl, hb10⟩
              have hwz := ext_trans hw9 hb10
              go_wp2
              go_ret
              exact ⟨by simp, ext_trans HFIN.out hwz⟩
          · obtain ⟨rfl, _⟩ := HN3.out h3
            clear hR a0 a1 a2 a3 h3
            go_wp2
            go_ret
            exact ⟨rfl, HFIN.out⟩
        · obtain ⟨rfl, _⟩ := HN2.out h2
          clear hR a0 a1 a2 a3 h2
          go_wp2
          go_ret
          exact ⟨rfl, HFIN.out⟩
      · obtain ⟨rfl, _⟩ := HN1.out h1
        clear hR a0 a1 a2 a3 h1
        go_wp2
        go_ret
        exact ⟨rfl, HFIN.out⟩
    · have hne : (pB != 0) = true := by simpa using h1
      have HFIN : Hid (Below w.heap.size w w2) := Lib.hid (by rw [HXB.out]; exact hw2)
      clear h1 hR a0 a1 a2 a3 hw2
      go_wp2
      go_ret
      exact ⟨rfl, HFIN.out⟩
  · have hne : (pA != 0) = true := by simpa using h0
    have HFIN : Hid (Below w.heap.size w w2) := Lib.hid (by rw [HXB.out]; exact hw2)
    clear h0 hR a0 a1 a2 a3 hw2
    go_wp2
    go_ret
    exact ⟨rfl, HFIN.out⟩
end Rg
end Go.Proofs.YtiogfdkdhfmamaaDoor
