/- CheckRatio of the reference. open of the reference: a sound ratio as a fraction. both of package value. Sum, Product, Inverse of package value. -/
import Derived.Test.YtemenlcigengeaaGreatDoorTq30
import Derived.Test.YtemenlcigengeaaGreatDoorTq20
import Derived.Test.YtemenlcigengeaaGreatDoorTq31
import Derived.Test.YtemenlcigengeaaGreatDoorTq19
namespace Go.Proofs.YtemenlcigengeaaGreatDoor
open Go.RowKit
namespace Nt
open _root_.Go.Proofs.YtemenlcigengeaaGreatDoor.Nm (decS decv Digs decv_decS decS_small cutS cutB cutL cutS_list cutS_size rF rQ badR largeR)
def TP.nat (n : Nat) : TP := ⟨fun w v => N w v n, fun _ _ _ hb h => h.ext hb⟩
theorem minus_zero (n : ByteArray) : (cutB n.data.toList && ((cutS n).toList == [48])) = (n.toList == [45, 48]) := by
  rw [ByteArray.toList_eq, ByteArray.toList_eq, cutS_list]
  unfold cutL
  cases h : n.data.toList with
  | nil => rfl
  | cons c r =>
    unfold cutB
    by_cases hc : c = 45
    · subst hc; simp
    · simp [hc]
theorem dec_one (g : Nat) : ((strOf (decS g)).toList != [49]) = decide (g ≠ 1) := by
  rw [ByteArray.toList_eq]
  show (decS g != [49]) = _
  by_cases h : g = 1
  · subst h
    rw [decS_small (by omega)]; rfl
  · have : decS g ≠ [49] := fun e => h (by
      have := decv_decS g
      rw [e] at this
      exact this.symm)
    simp [this, h]
theorem whole_digs {l : List UInt8} (h : wholeB l = true) : Digs l := by
  unfold wholeB at h
  simp only [Bool.and_eq_true] at h
  exact Nm.digs_of h.2
theorem wlen_dec9 {l : List UInt8} (h : Digs l) {k : Nat} (hk : l.length ≤ k) : wlen (decv l) ≤ k :=
  wlen_le (Nat.lt_of_lt_of_le (Nat.lt_of_lt_of_le (Nm.decv_lt h) (Nat.pow_le_pow_right (by decide) hk)) (Nat.pow_le_pow_left (by decide) k))
theorem gcd_wlen {a b k : Nat} (ha : wlen a ≤ k) (hb : wlen b ≤ k) : wlen (Nat.gcd a b) ≤ k := by
  rcases Nat.eq_zero_or_pos a with h | h
  · subst h; rw [Nat.gcd_zero_left]; exact hb
  · exact Nat.le_trans (wlen_mono (Nat.gcd_le_left b h)) ha
def CPost (w : World) (f : Int) (e : Ending) (w' : World) : Prop := e = .returned (.int .i64 f) ∧ Below w.heap.size w w'
set_option maxRecDepth 100000 in
set_option maxHeartbeats 8000000 in
theorem refCheck_at (n d : ByteArray) (hn : n.size ≤ maxLen) (hd : d.size ≤ maxLen) (w : World) (ht : Tab w) : Calls Tryz.prog 67 #[.agg #[.string n, .string d]] w (CPost w (rF n d)) := by
  have hcs : (cutS n).size ≤ maxLen := Nat.le_trans (cutS_size n) hn
  have HMZ := Lib.hid (minus_zero n)
  go_enter Tryz.func67, Tryz.ntmps67
  go_upto_region 1 with (fail)
  refine wp_box1 fun W hsz hbW hA => ?_
  have HTW := Lib.hid (ht.ext hbW)
  clear hsz ht
  have t0 : W.cell? ⟨w.heap.size, 0, none⟩ = some (.string n) := hA.2 0
  have t1 : W.cell? ⟨w.heap.size, 1, none⟩ = some (.string d) := hA.2 1
  go_wp2_with fail
  refine (Nm.trimPrefix_at n hn W).mono ?_
  rintro e w1 ⟨rfl, rfl⟩
  clear hA
  cases hp1 : wholeB (cutS n).data.toList with
  | false =>
    have HRF : Hid (rF n d = 3) := by
      have : rF n d = 3 := by unfold rF badR; rw [hp1]; rfl
      exact this
    have h1 := number_at (cutS n) hcs W
    rw [hp1] at h1
    clear hp1
    go_wp2_with fail
    refine h1.mono ?_
    rintro e w1 ⟨rfl, rfl⟩
    clear h1
    go_wp2
    go_ret
    exact ⟨ret_int HRF.out.symm, hbW⟩
  | true =>
    have h1 := number_at (cutS n) hcs W
    rw [hp1] at h1
    have HP1 := Lib.hid hp1
    clear hp1
    go_wp2_with fail
    refine h1.mono ?_
    rintro e w1 ⟨rfl, rfl⟩
    clear h1
    cases hp2 : (n.toList == [45, 48]) with
    | true =>
      have HRF : Hid (rF n d = 3) := by
        have : rF n d = 3 := by unfold rF badR; rw [HP1.out, HMZ.out, hp2]; rfl
        exact this
      go_wp2
      go_ret
      exact ⟨ret_int HRF.out.symm, hbW⟩
    | false =>
      have hp2' : ¬ (n.toList = [45, 48]) := by simpa using hp2
      cases hp3 : wholeB d.data.toList with
      | false =>
        have HRF : Hid (rF n d = 3) := by
          have : rF n d = 3 := by unfold rF badR; rw [HP1.out, HMZ.out, hp2, hp3]; rfl
          exact this
        have h1 := number_at d hd W
        rw [hp3] at h1
        clear hp3
        go_wp2_with fail
        refine h1.mono ?_
        rintro e w1 ⟨rfl, rfl⟩
        clear h1
        go_wp2
        go_ret
        exact ⟨ret_int HRF.out.symm, hbW⟩
      | true =>
        have h1 := number_at d hd W
        rw [hp3] at h1
        have HP3 := Lib.hid hp3
        clear hp3
        go_wp2_with fail
        refine h1.mono ?_
        rintro e w1 ⟨rfl, rfl⟩
        clear h1
        cases hp4 : (d.toList == [48]) with
        | true =>
          have HRF : Hid (rF n d = 3) := by
            have : rF n d = 3 := by unfold rF badR; rw [HP1.out, HMZ.out, hp2, HP3.out, hp4]; rfl
            exact this
          go_wp2
          go_ret
          exact ⟨ret_int HRF.out.symm, hbW⟩
        | false =>
          have hp4' : ¬ (d.toList = [48]) := by simpa using hp4
          have HBAD : Hid (badR (cutS n) d (cutB n.data.toList) = false) := by
            have : badR (cutS n) d (cutB n.data.toList) = false := by unfold badR; rw [HP1.out, HMZ.out, hp2, HP3.out, hp4]; rfl
            exact this
          unfold maxLen at hcs hd
          by_cases hl1 : 4000 < (cutS n).size
          · have HRF : Hid (rF n d = 2) := by
              have : rF n d = 2 := by unfold rF; rw [HBAD.out, if_neg (by decide), if_pos (show largeR (cutS n) d from Or.inl hl1)]
              exact this
            go_wp2
            go_ret
            exact ⟨ret_int HRF.out.symm, hbW⟩
          · by_cases hl2 : 4000 < d.size
            · have HRF : Hid (rF n d = 2) := by
                have : rF n d = 2 := by unfold rF; rw [HBAD.out, if_neg (by decide), if_pos (show largeR (cutS n) d from Or.inr hl2)]
                exact this
              go_wp2
              go_ret
              exact ⟨ret_int HRF.out.symm, hbW⟩
            · have HRF : Hid (rF n d = if Nat.gcd (decv (cutS n).data.toList) (decv d.data.toList) ≠ 1 then 3 else 0) := by
                have : rF n d = if Nat.gcd (decv (cutS n).data.toList) (decv d.data.toList) ≠ 1 then 3 else 0 := by
                  unfold rF; rw [HBAD.out, if_neg (by decide), if_neg (fun h => h.elim hl1 hl2)]
                exact this
              have HD1 := Lib.hid (whole_digs HP1.out)
              have HD3 := Lib.hid (whole_digs HP3.out)
              have hw1 : wlen (decv (cutS n).data.toList) ≤ 4000 := by
                refine wlen_dec9 HD1.out ?_
                rw [show (cutS n).data.toList.length = (cutS n).size from Array.length_toList]; omega
              have hw3 : wlen (decv d.data.toList) ≤ 4000 := by
                refine wlen_dec9 HD3.out ?_
                rw [show d.data.toList.length = d.size from Array.length_toList]; omega
              have hs1 : (cutS n).size ≤ 4000 := by omega
              have hs3 : d.size ≤ 4000 := by omega
              go_wp2_with fail
              generalize hA1 : decv (cutS n).data.toList = A1 at *
              generalize hB1 : decv d.data.toList = B1 at *
              have HA1 := Lib.hid hA1
              have HB1 := Lib.hid hB1
              clear hA1 hB1
              have hwg : wlen (Nat.gcd A1 B1) ≤ 4000 := gcd_wlen hw1 hw3
              obtain ⟨g, hg⟩ : ∃ g, Nat.gcd A1 B1 = g := ⟨_, rfl⟩
              have HGG := Lib.hid hg
              rw [hg] at hwg
              clear hg
              refine Grow.wp_region_grow 8 [TP.eq (.string (cutS n)), TP.nat A1, TP.eq (.pointer (some ⟨w.heap.size, 1, none⟩)), TP.eq (.string d), TP.nat B1, TP.nat g, TP.eq (.string (strOf (decS g))), TP.eq (.bool (decide (g ≠ 1)))] [[], [0], [], [2], [3], [1, 4], [5], [6]] (by kernel_rfl) (by kernel_rfl) ⟨?o0, ?o1, ?o2, ?o3, ?o4, ?o5, ?o6, ?o7, trivial⟩ ?_
              case o0 =>
                intro w' hb
                show wpList _ _ _ _ _ _
                go_wp2
                exact ⟨rfl, Below.refl _ _, rfl⟩
              case o1 =>
                intro w' hb v1 hv1
                obtain rfl : v1 = _ := hv1
                show wpList _ _ _ _ _ _
                simp only [Grow.dstOf, List.getElem?_toArray, List.getElem?_cons_zero, Option.bind_some, Act.put, List.setIfInBounds_toArray, List.set_cons_succ, List.set_cons_zero]
                go_wp2_with fail
                refine (readNatural_at (cutS n) HD1.out (by omega) w').mono ?_
                rw [HA1.out]
                rintro e wz ⟨vz, rfl, hxz, hbz⟩
                go_wp2
                exact ⟨hxz, hbz, rfl⟩
              case o2 =>
                intro w' hb
                show wpList _ _ _ _ _ _
                go_wp2
                exact ⟨rfl, Below.refl _ _, rfl⟩
              case o3 =>
                intro w' hb v1 hv1
                obtain rfl : v1 = _ := hv1
                have t1' : w'.cell? ⟨w.heap.size, 1, none⟩ = some (.string d) := (hb.cell (World.block_lt_of_cell? _ _ t1)).trans t1
                show wpList _ _ _ _ _ _
                simp only [Grow.dstOf, List.getElem?_toArray, List.getElem?_cons_succ, List.getElem?_cons_zero, Option.bind_some, Act.put, List.setIfInBounds_toArray, List.set_cons_succ, List.set_cons_zero]
                go_wp2
                exact ⟨rfl, Below.refl _ _, rfl⟩
              case o4 =>
                intro w' hb v1 hv1
                obtain rfl : v1 = _ := hv1
                show wpList _ _ _ _ _ _
                simp only [Grow.dstOf, List.getElem?_toArray, List.getElem?_cons_succ, List.getElem?_cons_zero, Option.bind_some, Act.put, List.setIfInBounds_toArray, List.set_cons_succ, List.set_cons_zero]
                go_wp2_with fail
                refine (readNatural_at d HD3.out (by omega) w').mono ?_
                rw [HB1.out]
                rintro e wz ⟨vz, rfl, hxz, hbz⟩
                go_wp2
                exact ⟨hxz, hbz, rfl⟩
              case o5 =>
                intro w' hb v1 hv1 v2 hv2
                have hv1' : N w' v1 A1 := hv1
                have hv2' : N w' v2 B1 := hv2
                clear hv1 hv2
                show wpList _ _ _ _ _ _
                simp only [Grow.dstOf, List.getElem?_toArray, List.getElem?_cons_succ, List.getElem?_cons_zero, Option.bind_some, Act.put, List.setIfInBounds_toArray, List.set_cons_succ, List.set_cons_zero]
                go_wp2_with fail
                refine (divisor_at A1 B1 _ _ w' hv1' hv2' (by omega) (by omega)).mono ?_
                rw [HGG.out]
                rintro e wz ⟨vz, rfl, hxz, hbz⟩
                go_wp2
                exact ⟨hxz, hbz, rfl⟩
              case o6 =>
                intro w' hb v1 hv1
                have hv1' : N w' v1 g := hv1
                clear hv1
                have HT9 := Lib.hid (HTW.out.ext hb)
                show wpList _ _ _ _ _ _
                simp only [Grow.dstOf, List.getElem?_toArray, List.getElem?_cons_succ, List.getElem?_cons_zero, Option.bind_some, Act.put, List.setIfInBounds_toArray, List.set_cons_succ, List.set_cons_zero]
                go_wp2_with fail
                refine (text_at g v1 w' hv1' (by omega) HT9.out).mono ?_
                rintro e wz ⟨rfl, hbz⟩
                go_wp2
                exact ⟨rfl, hbz, rfl⟩
              case o7 =>
                intro w' hb v1 hv1
                obtain rfl : v1 = _ := hv1
                show wpList _ _ _ _ _ _
                simp only [Grow.dstOf, List.getElem?_toArray, List.getElem?_cons_succ, List.getElem?_cons_zero, Option.bind_some, Act.put, List.setIfInBounds_toArray, List.set_cons_succ, List.set_cons_zero]
                go_wp2
                exact ⟨congrArg Value.bool (dec_one g), Below.refl _ _, rfl⟩
              intro w7 hb7 v0 h0 v1 h1 v2 h2 v3 h3 v4 h4 v5 h5 v6 h6 v7 h7
              obtain rfl : v7 = _ := h7
              clear h0 h1 h2 h3 h4 h5 h6
              have hbw7 := ext_trans hbW hb7
              show wpList _ _ _ _ _ _
              simp only [Act.put, List.setIfInBounds_toArray, List.set_cons_succ, List.set_cons_zero]
              by_cases hg1 : g = 1
              · have HR0 : Hid (rF n d = 0) := by
                  have h := HRF.out
                  rw [if_neg (fun h' => h' (HGG.out.trans hg1))] at h
                  exact h
                rw [show decide (g ≠ 1) = false from decide_eq_false (fun h => h hg1)]
                go_wp2
                rename_i K1 k1 K2 k2
                refine k2 _ _ ?_
                go_wp2
                go_ret
                exact ⟨ret_int HR0.out.symm, hbw7⟩
              · have HR0 : Hid (rF n d = 3) := by
                  have h := HRF.out
                  rw [if_pos (show Nat.gcd A1 B1 ≠ 1 from fun h' => hg1 (HGG.out.symm.trans h'))] at h
                  exact h
                rw [show decide (g ≠ 1) = true from decide_eq_true hg1]
                go_wp2
                rename_i K1 k1 K2 k2
                refine k2 _ _ ?_
                go_wp2
                go_ret
                exact ⟨ret_int HR0.out.symm, hbw7⟩
end Nt
end Go.Proofs.YtemenlcigengeaaGreatDoor
namespace Go.Proofs.YtemenlcigengeaaGreatDoor
open Go.RowKit
namespace Nt
open _root_.Go.Proofs.YtemenlcigengeaaGreatDoor.Nm (decS decv Digs decv_decS cutS cutB cutS_size rF rQ zeroX)
def isI : Value → Bool
  | .int .i64 _ => true
  | _ => false
theorem N.keepBox {w w' : World} {v : Value} {n b : Nat} {A : Array Value} (h : N w v n) (hA : Box w b A) (hne : ∀ (j : Nat) (u : Value), A[j]? = some u → isI u = false) (hk : ∀ p : Addr, p.block ≠ b → w'.cell? p = w.cell? p) : N w' v n := by
  obtain ⟨a, cap, hv, h1, h2, h0, h3⟩ := h
  refine ⟨a, cap, hv, h1, h2, h0, fun i x hx => ?_⟩
  obtain ⟨b', o, ha, hc⟩ := h3 i x hx
  refine ⟨b', o, ha, (hk _ ?_).trans hc⟩
  rintro (rfl : b' = b)
  have h4 := hA.2 (o + i)
  rw [hc] at h4
  have h5 := hne _ _ h4.symm
  have hi : i < (digs n).length := by have := (List.getElem?_eq_some_iff.1 hx).1; rwa [wcs_length] at this
  rw [wcs_get hi] at hx
  cases hx
  cases h5
theorem zero_notI : ∀ (j : Nat) (u : Value), zeroX[j]? = some u → isI u = false := by
  intro j u h
  match j with
  | 0 => cases h; rfl
  | 1 => cases h; rfl
  | 2 => cases h; rfl
  | n + 3 => simp [zeroX] at h
def TP.frac (b : Bool) (x y : Nat) : TP := ⟨fun w v => ∃ v1 v2, v = .agg #[.bool b, v1, v2] ∧ N w v1 x ∧ N w v2 y, fun _ _ _ hb ⟨v1, v2, h1, h2, h3⟩ => ⟨v1, v2, h1, h2.ext hb, h3.ext hb⟩⟩
def FrPost (w : World) (b : Bool) (x y : Nat) (e : Ending) (w' : World) : Prop := ∃ v1 v2, e = .returned (.agg #[.bool b, v1, v2]) ∧ N w' v1 x ∧ N w' v2 y ∧ Below w.heap.size w w'
theorem fr3 {w0 w : World} {b : Nat} {x y : Nat} {v1 v2 : Value} (bb : Bool) (hC : Box w b zeroX) (h1 : N w v1 x) (h2 : N w v2 y) (hb : Below w0.heap.size w0 w) (hle : w0.heap.size ≤ b) :
    let w' := ((w.setCell ⟨b, 0, none⟩ (.bool bb)).setCell ⟨b, 1, none⟩ v1).setCell ⟨b, 2, none⟩ v2
    N w' v1 x ∧ N w' v2 y ∧ Below w0.heap.size w0 w' ∧ w'.cell? ⟨b, 0, none⟩ = some (.bool bb) ∧ w'.cell? ⟨b, 1, none⟩ = some v1 ∧ w'.cell? ⟨b, 2, none⟩ = some v2 := by
  have hq := Nm.three_set (.bool bb) v1 v2 (hC.2 0) (hC.2 1) (hC.2 2)
  exact ⟨h1.keepBox hC zero_notI (Nm.set3_other _ _ _), h2.keepBox hC zero_notI (Nm.set3_other _ _ _), ((hb.setCell hle _).setCell hle _).setCell hle _, hq.1, hq.2.1, hq.2.2⟩
theorem strHasPrefix_at (s : ByteArray) (hs : s.size ≤ maxLen) (w : World) : Calls Tryz.prog 110 #[.string s, .string ⟨#[45]⟩] w fun e w' => e = .returned (.bool (cutB s.data.toList)) ∧ w = w' := by
  go_enter Tryz.func110, Tryz.ntmps110
  go_wp2_with fail
  refine (Nm.hasPrefix_at s hs w).mono ?_
  rintro e w' ⟨rfl, rfl⟩
  go_wp2
  go_ret
  exact ⟨rfl, rfl⟩
set_option maxRecDepth 100000 in
set_option maxHeartbeats 8000000 in
theorem open_at (n d : ByteArray) (hn : n.size ≤ maxLen) (h1 : Digs (cutS n).data.toList) (h2 : Digs d.data.toList) (hs1 : (cutS n).size ≤ 4000) (hs2 : d.size ≤ 4000) (w : World) : Calls Tryz.prog 85 #[.agg #[.string n, .string d]] w (FrPost w (cutB n.data.toList) (decv (cutS n).data.toList) (decv d.data.toList)) := by
  have HD1 := Lib.hid h1
  have HD3 := Lib.hid h2
  have HNN := Lib.hid hn
  clear h1 h2 hn
  go_enter Tryz.func85, Tryz.ntmps85
  go_upto_region 1 with (fail)
  refine wp_box2r fun W hsz hbW hA hC hF => ?_
  have t0 : W.cell? ⟨w.heap.size, 0, none⟩ = some (.string n) := hA.2 0
  have t1 : W.cell? ⟨w.heap.size, 1, none⟩ = some (.string d) := hA.2 1
  clear hsz hA
  generalize hA1 : decv (cutS n).data.toList = A1 at *
  generalize hB1 : decv d.data.toList = B1 at *
  generalize hbb : cutB n.data.toList = bb at *
  have HA1 := Lib.hid hA1
  have HB1 := Lib.hid hB1
  have HBB := Lib.hid hbb
  have HC := Lib.hid (And.intro hC hF)
  have HBW := Lib.hid hbW
  clear hA1 hB1 hbb hC hF hbW
  go_wp2_with fail
  refine Grow.wp_region_grow 11 [TP.eq (.pointer (some ⟨w.heap.size, 0, none⟩)), TP.eq (.string n), TP.eq (.bool bb), TP.eq (.pointer (some ⟨w.heap.size, 0, none⟩)), TP.eq (.string n), TP.eq (.string (cutS n)), TP.nat A1, TP.eq (.pointer (some ⟨w.heap.size, 1, none⟩)), TP.eq (.string d), TP.nat B1, TP.frac bb A1 B1] [[], [0], [1], [], [3], [4], [5], [], [7], [8], [2, 6, 9]] (by kernel_rfl) (by kernel_rfl) ⟨?o0, ?o1, ?o2, ?o3, ?o4, ?o5, ?o6, ?o7, ?o8, ?o9, ?o10, trivial⟩ ?_
  case o0 =>
    intro w' hb
    show wpList _ _ _ _ _ _
    go_wp2
    exact ⟨rfl, Below.refl _ _, rfl⟩
  case o1 =>
    intro w' hb v1 hv1
    obtain rfl : v1 = _ := hv1
    have t' : w'.cell? ⟨w.heap.size, 0, none⟩ = some (.string n) := (hb.cell (World.block_lt_of_cell? _ _ t0)).trans t0
    show wpList _ _ _ _ _ _
    simp only [Grow.dstOf, List.getElem?_toArray, List.getElem?_cons_zero, Option.bind_some, Act.put, List.setIfInBounds_toArray, List.set_cons_succ, List.set_cons_zero]
    go_wp2
    exact ⟨rfl, Below.refl _ _, rfl⟩
  case o2 =>
    intro w' hb v1 hv1
    obtain rfl : v1 = _ := hv1
    show wpList _ _ _ _ _ _
    simp only [Grow.dstOf, List.getElem?_toArray, List.getElem?_cons_succ, List.getElem?_cons_zero, Option.bind_some, Act.put, List.setIfInBounds_toArray, List.set_cons_succ, List.set_cons_zero]
    go_wp2_with fail
    refine (strHasPrefix_at n HNN.out w').mono ?_
    rw [HBB.out]
    rintro e wz ⟨rfl, rfl⟩
    go_wp2
    exact ⟨rfl, Below.refl _ _, rfl⟩
  case o3 =>
    intro w' hb
    show wpList _ _ _ _ _ _
    go_wp2
    exact ⟨rfl, Below.refl _ _, rfl⟩
  case o4 =>
    intro w' hb v1 hv1
    obtain rfl : v1 = _ := hv1
    have t' : w'.cell? ⟨w.heap.size, 0, none⟩ = some (.string n) := (hb.cell (World.block_lt_of_cell? _ _ t0)).trans t0
    show wpList _ _ _ _ _ _
    simp only [Grow.dstOf, List.getElem?_toArray, List.getElem?_cons_succ, List.getElem?_cons_zero, Option.bind_some, Act.put, List.setIfInBounds_toArray, List.set_cons_succ, List.set_cons_zero]
    go_wp2
    exact ⟨rfl, Below.refl _ _, rfl⟩
  case o5 =>
    intro w' hb v1 hv1
    obtain rfl : v1 = _ := hv1
    show wpList _ _ _ _ _ _
    simp only [Grow.dstOf, List.getElem?_toArray, List.getElem?_cons_succ, List.getElem?_cons_zero, Option.bind_some, Act.put, List.setIfInBounds_toArray, List.set_cons_succ, List.set_cons_zero]
    go_wp2_with fail
    refine (Nm.trimPrefix_at n HNN.out w').mono ?_
    rintro e wz ⟨rfl, rfl⟩
    go_wp2
    exact ⟨rfl, Below.refl _ _, rfl⟩
  case o6 =>
    intro w' hb v1 hv1
    obtain rfl : v1 = _ := hv1
    show wpList _ _ _ _ _ _
    simp only [Grow.dstOf, List.getElem?_toArray, List.getElem?_cons_succ, List.getElem?_cons_zero, Option.bind_some, Act.put, List.setIfInBounds_toArray, List.set_cons_succ, List.set_cons_zero]
    go_wp2_with fail
    refine (readNatural_at (cutS n) HD1.out (by omega) w').mono ?_
    rw [HA1.out]
    rintro e wz ⟨vz, rfl, hxz, hbz⟩
    go_wp2
    exact ⟨hxz, hbz, rfl⟩
  case o7 =>
    intro w' hb
    show wpList _ _ _ _ _ _
    go_wp2
    exact ⟨rfl, Below.refl _ _, rfl⟩
  case o8 =>
    intro w' hb v1 hv1
    obtain rfl : v1 = _ := hv1
    have t' : w'.cell? ⟨w.heap.size, 1, none⟩ = some (.string d) := (hb.cell (World.block_lt_of_cell? _ _ t1)).trans t1
    show wpList _ _ _ _ _ _
    simp only [Grow.dstOf, List.getElem?_toArray, List.getElem?_cons_succ, List.getElem?_cons_zero, Option.bind_some, Act.put, List.setIfInBounds_toArray, List.set_cons_succ, List.set_cons_zero]
    go_wp2
    exact ⟨rfl, Below.refl _ _, rfl⟩
  case o9 =>
    intro w' hb v1 hv1
    obtain rfl : v1 = _ := hv1
    show wpList _ _ _ _ _ _
    simp only [Grow.dstOf, List.getElem?_toArray, List.getElem?_cons_succ, List.getElem?_cons_zero, Option.bind_some, Act.put, List.setIfInBounds_toArray, List.set_cons_succ, List.set_cons_zero]
    go_wp2_with fail
    refine (readNatural_at d HD3.out (by omega) w').mono ?_
    rw [HB1.out]
    rintro e wz ⟨vz, rfl, hxz, hbz⟩
    go_wp2
    exact ⟨hxz, hbz, rfl⟩
  case o10 =>
    intro w' hb v1 hv1 v2 hv2 v3 hv3
    obtain rfl : v1 = _ := hv1
    have hv2' : N w' v2 A1 := hv2
    have hv3' : N w' v3 B1 := hv3
    obtain ⟨a2, c2, rfl, _⟩ := hv2'.open_
    obtain ⟨a3, c3, rfl, _⟩ := hv3'.open_
    have H2 := Lib.hid hv2'
    have H3 := Lib.hid hv3'
    clear hv2 hv3 hv2' hv3'
    show wpList _ _ _ _ _ _
    simp only [Grow.dstOf, List.getElem?_toArray, List.getElem?_cons_succ, List.getElem?_cons_zero, Option.bind_some, Act.put, List.setIfInBounds_toArray, List.set_cons_succ, List.set_cons_zero]
    go_wp2
    exact ⟨⟨_, _, rfl, H2.out, H3.out⟩, Below.refl _ _, rfl⟩
  intro w7 hb7 v0 h0 v1 h1 v2 h2 v3 h3 v4 h4 v5 h5 v6 h6 v7 h7 v8 h8 v9 h9 v10 h10
  have g10 : ∃ v1 v2, v10 = .agg #[.bool bb, v1, v2] ∧ N w7 v1 A1 ∧ N w7 v2 B1 := h10
  clear h0 h1 h2 h3 h4 h5 h6 h7 h8 h9 h10
  obtain ⟨x1, x2, rfl, k1, k2⟩ := g10
  obtain ⟨a2, c2, rfl, _⟩ := k1.open_
  obtain ⟨a3, c3, rfl, _⟩ := k2.open_
  have hC7 := HC.out.1.ext hb7
  have hF7 := HC.out.2.ext HC.out.1 hb7
  have hbw7 := ext_trans HBW.out hb7
  have r0 : w7.cell? ⟨w.heap.size + 1, 0, none⟩ = some (.bool false) := hC7.2 0
  have r1 : w7.cell? ⟨w.heap.size + 1, 1, none⟩ = some (.slice none 0 0) := hC7.2 1
  have r2 : w7.cell? ⟨w.heap.size + 1, 2, none⟩ = some (.slice none 0 0) := hC7.2 2
  have g0 := hF7 0
  have g1 := hF7 1
  have g2 := hF7 2
  have HR := Lib.hid (fr3 bb hC7 k1 k2 hbw7 (Nat.le_succ _))
  obtain ⟨_, _, hbF, z0, z1, z2⟩ := id HR.out
  clear hC7 hF7 hbw7 hbF k1 k2
  show wpList _ _ _ _ _ _
  simp only [Act.put, List.setIfInBounds_toArray, List.set_cons_succ, List.set_cons_zero]
  go_wp2
  exact bodyPost_ret (v := .agg #[.bool bb, .slice a2 (digs A1).length c2, .slice a3 (digs B1).length c3]) (by simp [results, Tryz.results85, go_sem, z0, z1, z2]) rfl ⟨_, _, rfl, HR.out.1, HR.out.2.1, HR.out.2.2.1⟩
end Nt
end Go.Proofs.YtemenlcigengeaaGreatDoor
namespace Go.Proofs.YtemenlcigengeaaGreatDoor
open Go.RowKit
namespace Nm
abbrev xv (b : Bool) (p1 : Option Addr) (m1 c1 : Nat) (p2 : Option Addr) (m2 c2 : Nat) : Value := .agg #[.bool b, .slice p1 m1 c1, .slice p2 m2 c2]
theorem XR.keepBox {w w' : World} {v : Value} {q : Rat} {b : Nat} (h : XR w v q) (hC : Box w b zeroX) (hk : ∀ p : Addr, p.block ≠ b → w'.cell? p = w.cell? p) : XR w' v q := by
  obtain ⟨v1, v2, h0, h1, h2⟩ := h
  exact ⟨v1, v2, h0, h1.keepBox hC zeroX_word hk, h2.keepBox hC zeroX_word hk⟩
theorem Box.far {w w' : World} {b b2 : Nat} {A : Array Value} (h : Box w b A) (hk : ∀ p : Addr, p.block ≠ b2 → w'.cell? p = w.cell? p) (hne : b ≠ b2) (hs : w.heap.size ≤ w'.heap.size) : Box w' b A :=
  ⟨Nat.lt_of_lt_of_le h.1 hs, fun j => (hk ⟨b, j, none⟩ hne).trans (h.2 j)⟩
/-- the fault of two ratios -/
def bF (n1 d1 n2 d2 : ByteArray) : Int := if rF n1 d1 ≠ 0 then rF n1 d1 else rF n2 d2
end Nm
end Go.Proofs.YtemenlcigengeaaGreatDoor
namespace Go.Proofs.YtemenlcigengeaaGreatDoor
open Go.RowKit
namespace Nm
/-- the answer: two texts, and a fault -/
def AnsPost (w : World) (s t : ByteArray) (f : Int) (e : Ending) (w' : World) : Prop := e = .returned (.tuple #[.agg #[.string s, .string t], .int .i64 f]) ∧ Below w.heap.size w w'
end Nm
end Go.Proofs.YtemenlcigengeaaGreatDoor
