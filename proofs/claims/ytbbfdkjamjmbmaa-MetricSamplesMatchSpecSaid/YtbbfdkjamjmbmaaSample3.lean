/- metric.Sample. -/
import Derived.Test.YtbbfdkjamjmbmaaSample2
namespace Go.Proofs.Ytbbfdkjamjmbmaa
open Go.RowKit
theorem pair_info : (Try.prog.info? 28).map (fun i => (i.zero, i.size, i.bytes)) = some (some (.agg #[.int .i64 0, .int .i64 0]), 2, 16) := by kernel_rfl
def subL (s : Sub) : List Value := (subC s).toList
def pairL (m : Met) (s : Sub) : List Value := (pairC m s).toList
theorem subL_len (s : Sub) : (subL s).length = 8 := rfl
theorem pairL_len (m : Met) (s : Sub) : (pairL m s).length = 2 := rfl
def keepS (arm : Int) (s : Sub) : Bool := decide (s.arm = arm) && s.closed
/-- the first fault of subjects -/
def faultsS : List Sub → Int
  | [] => 0
  | s :: l => if checkS s = 0 then faultsS l else checkS s
def sampF (m : Met) (l : List Sub) (arm : Int) : Int :=
  if checkM m ≠ 0 then checkM m else if 20000 < l.length then 2 else if withinB arm 0 19 = false then 1 else faultsS l
def sampL (m : Met) (l : List Sub) (arm : Int) : List Sub := if sampF m l arm = 0 then l.filter (keepS arm) else []
def SamplePost (m : Met) (l : List Sub) (arm : Int) (w : World) (e : Ending) (w' : World) : Prop :=
  ∃ v, e = .returned (.tuple #[v, .int .i64 (sampF m l arm)]) ∧ Sl w' v (sampL m l arm).length ((sampL m l arm).flatMap (pairL m)) ∧ Below w.heap.size w w'
theorem faults_step {l : List Sub} {k : Nat} {s : Sub} (h : l[k]? = some s) : faultsS (l.drop k) = if checkS s = 0 then faultsS (l.drop (k + 1)) else checkS s := by
  obtain ⟨hk, rfl⟩ := List.getElem?_eq_some_iff.1 h
  rw [List.drop_eq_getElem_cons hk]; rfl
theorem filter_step {l : List Sub} {k : Nat} {s : Sub} (p : Sub → Bool) (h : l[k]? = some s) : (l.take (k + 1)).filter p = (l.take k).filter p ++ if p s then [s] else [] := by
  obtain ⟨hk, rfl⟩ := List.getElem?_eq_some_iff.1 h
  rw [List.take_succ_eq_append_getElem hk, List.filter_append]
  by_cases h : p l[k] = true
  · simp [h]
  · simp [h]

set_option maxHeartbeats 4000000 in
theorem metric_Sample (m : Met) (hm : m.ok) (l : List Sub) (a : Option Addr) (c : Nat) (arm : Int) (w : World) (hs : Sl w (.slice a l.length c) l.length (l.flatMap subL)) :
    Calls Try.prog 9 #[.agg (metC m), .slice a l.length c, .int .i64 arm] w (SamplePost m l arm w) := by
  go_enter Try.func9, Try.ntmps9
  go_upto_region 1 with (fail)
  refine wp_box1 fun W hsz hbW hA => ?_
  obtain ⟨_, hA2⟩ := id hA
  go_wp2_with fail
  refine (metric_Check m hm _).mono ?_
  rintro e w1 ⟨rfl, hb1⟩
  have hA1 := hA.ext hb1
  have hbw1 := ext_trans hbW hb1
  clear hA2 hA hb1
  by_cases h0 : checkM m = 0
  · have hne : (checkM m != 0) = false := by simp [h0]
    have H0 := Lib.hid h0
    clear h0
    by_cases hl : 20000 < l.length
    · have hf : sampF m l arm = 2 := by unfold sampF; rw [if_neg (by simp [H0.out]), if_pos hl]
      have HF := Lib.hid hf
      clear hf
      go_wp2
      go_ret2
      exact ⟨_, by rw [HF.out]; rfl, by unfold sampL; rw [HF.out]; exact Sl.nil _, hbw1⟩
    · by_cases hw : withinB arm 0 19 = true
      · have hf : sampF m l arm = faultsS l := by unfold sampF; rw [if_neg (by simp [H0.out]), if_neg hl, if_neg (by simp [hw])]
        have HF := Lib.hid hf
        clear hf
        go_wp2_with (go_at_call 29; refine (metric_within _ _ _ _).mono ?_; rintro e w' ⟨rfl, rfl⟩)
        have HP := Lib.hid pair_info
        go_loopw [9, 28] (fun v i wr => ∃ (k n : Nat), k ≤ l.length ∧ n ≤ k ∧ i = .int .i64 k ∧ Hid (sampF m l arm = faultsS (l.drop k)) ∧ wr.ownsRow w1.heap.size 28 2 v n (((l.take k).filter (keepS arm)).flatMap (pairL m)) ∧ Hid (((l.take k).filter (keepS arm)).length = n) ∧ Below w1.heap.size w1 wr) (fun _ i _ => l.length - (intOf i).toNat)
        case atStart => exact ⟨0, 0, by omega, by omega, rfl, HF.out, World.ownsRow_nil _ _ _ _, rfl, Below.refl _ _⟩
        case round =>
          obtain ⟨k, n, hk, hnk, rfl, HK, hown, HN, hbr⟩ := hrel
          by_cases hlt : k < l.length
          · have hgk := List.getElem?_eq_getElem hlt
            have hst := faults_step hgk
            have hfi := filter_step (keepS arm) hgk
            generalize l[k] = s at hgk hst hfi
            obtain ⟨b, o, rfl, hcs⟩ := (hs.ext (ext_trans hbw1 hbr)).elem subL_len (by omega) hgk
            have e0 := hcs 0 _ rfl
            have e1 := hcs 1 _ rfl
            have e2 := hcs 2 _ rfl
            have e3 := hcs 3 _ rfl
            have e4 := hcs 4 _ rfl
            have e5 := hcs 5 _ rfl
            have e6 := hcs 6 _ rfl
            have e7 := hcs 7 _ rfl
            rw [Nat.add_zero] at e0
            have HST := Lib.hid hst
            have HFI := Lib.hid hfi
            have HG := Lib.hid hgk
            clear hst hfi hgk hcs
            go_upto_region 12 with (fail)
            clear e0 e1 e2 e3 e4 e5 e6 e7
            refine wp_box1 fun X hszX hbX hS => ?_
            obtain ⟨_, hS2⟩ := id hS
            go_wp2_with fail
            refine (metric_checkSubject s _).mono ?_
            rintro e w2 ⟨rfl, hb2⟩
            have hb3 := ext_trans hbX hb2
            have hS3 := hS.ext hb2
            have hA3 := (hA1.ext hbr).ext hb3
            have hb4 := ext_trans hbr hb3
            have hown3 := ownsRow_ext hown hb3
            clear hS2 hS hown hbX hb2 hb3 hszX
            by_cases hc : checkS s = 0
            · have hne2 : (checkS s != 0) = false := by simp [hc]
              have HK2 : Hid (sampF m l arm = faultsS (l.drop (k + 1))) := by have := HK.out; rw [HST.out, if_pos hc] at this; exact this
              clear hc
              obtain ⟨_, hS4⟩ := id hS3
              by_cases hk1 : (s.arm == arm) = true
              · by_cases hk2 : s.closed = true
                · have HFI2 : Hid ((l.take (k + 1)).filter (keepS arm) = (l.take k).filter (keepS arm) ++ [s]) := by
                    have := HFI.out
                    rw [show keepS arm s = true by simp [keepS, hk2]; simpa using hk1] at this
                    exact (by simpa using this : (l.take (k + 1)).filter (keepS arm) = (l.take k).filter (keepS arm) ++ [s])
                  obtain ⟨_, hA4⟩ := id hA3
                  go_wp2_with fail
                  refine (metric_pairOf m H0.out { s with closed := true } _).mono ?_
                  rintro e w5 ⟨rfl, hb5⟩
                  have hown5 := ownsRow_ext hown3 hb5
                  have hb6 := ext_trans hb4 hb5
                  have hsz6 := hb6.size
                  clear hS4 hA4 hS3 hA3 hown3 hb4 hb5
                  go_wp2_with (at_builtin; refine wpList_append_sl rfl _ _ 32 rfl w1.heap.size 28 Try.underlying32 HP.out rfl (by decide) rfl (ownsRow_ext hown5 (ext_alloc _ _)) rfl (Sl.new w5 _ _ 1 1 (by omega) (by decide)) rfl (by intro u hu; simp at hu; rcases hu with rfl | rfl <;> rfl) (by unfold maxLen; omega) (by omega) (by simp; omega) ?_; intro v7 w7 hown7 hg7 _)
                  have hL : ((l.take k).filter (keepS arm)).flatMap (pairL m) ++ pairL m s = ((l.take (k + 1)).filter (keepS arm)).flatMap (pairL m) := by
                    rw [HFI2.out, List.flatMap_append]; simp
                  have hown8 : w7.ownsRow w1.heap.size 28 2 v7 (n + 1) (((l.take (k + 1)).filter (keepS arm)).flatMap (pairL m)) := by rw [← hL]; exact hown7
                  have hb8 : Below w1.heap.size w1 w7 := (ext_trans hb6 (ext_alloc _ _)).grown hg7 (by simp; omega) (fun q hq => (hown5.lt q hq).1)
                  have HN2 : Hid (((l.take (k + 1)).filter (keepS arm)).length = n + 1) := by
                    have := HN.out
                    exact (by rw [HFI2.out, List.length_append, this]; rfl : ((l.take (k + 1)).filter (keepS arm)).length = n + 1)
                  clear hown7 hg7 hown5 hb6 hL
                  go_wp2
                  go_roundw
                  case rel => exact ⟨k + 1, n + 1, by omega, by omega, by go_num, HK2, hown8, HN2, hb8⟩
                  case measure => simp [intOf]; omega
                · have hk2' : s.closed = false := by simpa using hk2
                  have HFI2 : Hid ((l.take (k + 1)).filter (keepS arm) = (l.take k).filter (keepS arm)) := by
                    have := HFI.out
                    rw [show keepS arm s = false by simp [keepS, hk2']] at this
                    exact (by simpa using this : (l.take (k + 1)).filter (keepS arm) = (l.take k).filter (keepS arm))
                  have hown8 : w2.ownsRow w1.heap.size 28 2 u9 n (((l.take (k + 1)).filter (keepS arm)).flatMap (pairL m)) := by rw [HFI2.out]; exact hown3
                  have HN2 : Hid (((l.take (k + 1)).filter (keepS arm)).length = n) := by rw [HFI2.out]; exact HN
                  clear hk2
                  go_wp2
                  go_roundw
                  case rel => exact ⟨k + 1, n, by omega, by omega, by go_num, HK2, hown8, HN2, hb4⟩
                  case measure => simp [intOf]; omega
              · have hk1' : (s.arm == arm) = false := by simpa using hk1
                have HFI2 : Hid ((l.take (k + 1)).filter (keepS arm) = (l.take k).filter (keepS arm)) := by
                  have := HFI.out
                  rw [show keepS arm s = false by simp only [keepS]; rw [show decide (s.arm = arm) = false by simpa using hk1']; rfl] at this
                  exact (by simpa using this : (l.take (k + 1)).filter (keepS arm) = (l.take k).filter (keepS arm))
                have hown8 : w2.ownsRow w1.heap.size 28 2 u9 n (((l.take (k + 1)).filter (keepS arm)).flatMap (pairL m)) := by rw [HFI2.out]; exact hown3
                have HN2 : Hid (((l.take (k + 1)).filter (keepS arm)).length = n) := by rw [HFI2.out]; exact HN
                clear hk1
                go_wp2
                go_roundw
                case rel => exact ⟨k + 1, n, by omega, by omega, by go_num, HK2, hown8, HN2, hb4⟩
                case measure => simp [intOf]; omega
            · have hne2 : (checkS s != 0) = true := by simp [hc]
              have HE : Hid (sampF m l arm = checkS s) := by have := HK.out; rw [HST.out, if_neg hc] at this; exact this
              have HC := Lib.hid hc
              clear hc
              go_wp2
              go_ret2
              exact ⟨_, by rw [HE.out]; rfl, by unfold sampL; rw [HE.out, if_neg HC.out]; exact Sl.nil _, ext_trans hbw1 hb4⟩
          · have hkl : k = l.length := by omega
            have HE : Hid (sampF m l arm = 0) := by have := HK.out; rw [List.drop_eq_nil_of_le (by omega)] at this; exact this
            have HL : Hid (sampL m l arm = (l.take k).filter (keepS arm)) := by
              have e : (l.take k).filter (keepS arm) = l.filter (keepS arm) := by rw [List.take_of_length_le (by omega)]
              exact (by unfold sampL; rw [HE.out, if_pos rfl, e] : sampL m l arm = (l.take k).filter (keepS arm))
            go_wp2
            go_ret2
            exact ⟨_, by rw [HE.out]; rfl, by rw [HL.out, HN.out]; exact Sl.ofOwn hown, ext_trans hbw1 hbr⟩
      · have hw' : withinB arm 0 19 = false := by simpa using hw
        have hf : sampF m l arm = 1 := by unfold sampF; rw [if_neg (by simp [H0.out]), if_neg hl, if_pos hw']
        have HF := Lib.hid hf
        clear hf hw
        go_wp2_with (go_at_call 29; refine (metric_within _ _ _ _).mono ?_; rintro e w' ⟨rfl, rfl⟩)
        go_ret2
        exact ⟨_, by rw [HF.out]; rfl, by unfold sampL; rw [HF.out]; exact Sl.nil _, hbw1⟩
  · have hne : (checkM m != 0) = true := by simp [h0]
    have hf : sampF m l arm = checkM m := by unfold sampF; rw [if_pos h0]
    have HF := Lib.hid hf
    have H0 := Lib.hid h0
    clear hf h0
    go_wp2
    go_ret2
    exact ⟨_, by rw [HF.out]; rfl, by unfold sampL; rw [HF.out, if_neg H0.out]; exact Sl.nil _, hbw1⟩
end Go.Proofs.Ytbbfdkjamjmbmaa
