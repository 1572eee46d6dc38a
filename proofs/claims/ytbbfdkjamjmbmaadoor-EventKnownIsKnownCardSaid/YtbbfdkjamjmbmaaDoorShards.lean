/- checkShards of package event, and the reference's. -/
import Derived.Test.YtbbfdkjamjmbmaaDoorBroken
namespace Go.Proofs.YtbbfdkjamjmbmaaDoor
open Go.RowKit
def scanS : Option ByteArray → List ByteArray → Int
  | _, [] => 0
  | p, s :: r => if nameB s.data.toList = false then 5 else if (match p with | none => false | some q => decide (cmpS s q ≤ 0)) = true then 8 else scanS (some s) r
def checkSh (L : List ByteArray) : Int := if L.length = 0 then 9 else if 50 < L.length then 2 else scanS none L
def prevS (l : List ByteArray) : Nat → Option ByteArray
  | 0 => none
  | k + 1 => l[k]?
theorem drop_nil {α : Type} (l : List α) (k : Nat) (h : l.length ≤ k) : l.drop k = [] := List.drop_eq_nil_of_le h
theorem scanS_step (p : Option ByteArray) {l : List ByteArray} {k : Nat} {s : ByteArray} (h : l[k]? = some s) : scanS p (l.drop k) = if nameB s.data.toList = false then 5 else if (match p with | none => false | some q => decide (cmpS s q ≤ 0)) = true then 8 else scanS (some s) (l.drop (k + 1)) := by
  obtain ⟨hk, rfl⟩ := List.getElem?_eq_some_iff.1 h
  rw [List.drop_eq_getElem_cons hk]; rfl
/-- a string out of a slice of strings -/
theorem str_cell {w : World} {a : Option Addr} {n c k : Nat} {l : List ByteArray} {x : ByteArray} (s : Sl w (.slice a n c) n (l.map Value.string)) (h : l[k]? = some x) :
    ∃ b o, a = some ⟨b, o, none⟩ ∧ w.cell? ⟨b, o + k, none⟩ = some (.string x) := by
  obtain ⟨a', cap, hv, _, _, _, h3⟩ := s
  obtain ⟨rfl, _, _⟩ : a = a' ∧ True ∧ True := by cases hv; exact ⟨rfl, trivial, trivial⟩
  obtain ⟨b, o, rfl, hc⟩ := h3 k (.string x) (by rw [List.getElem?_map, h]; rfl)
  exact ⟨b, o, rfl, hc⟩
theorem leq_of (a b : ByteArray) : (Op.bytesLess a.toList b.toList || a.toList == b.toList) = decide (cmpS a b ≤ 0) := by
  rw [less_of, beq_of, Bool.eq_iff_iff]
  have := cmpS_tri a b
  simp only [Bool.or_eq_true, decide_eq_true_eq]
  omega

set_option maxHeartbeats 8000000 in
theorem event_checkShards (L : List ByteArray) (hok : ∀ s ∈ L, s.size ≤ maxLen) (a : Option Addr) (c : Nat) (w : World) (hs : Sl w (.slice a L.length c) L.length (L.map Value.string)) :
    Calls Tryd.prog 16 #[.slice a L.length c] w fun e w' => e = .returned (.int .i64 (checkSh L)) ∧ w = w' := by
  have HOK := Lib.hid hok
  clear hok
  by_cases h0 : L.length = 0
  · have HC : Hid (checkSh L = 9) := by
      have : checkSh L = 9 := by unfold checkSh; rw [if_pos h0]
      exact this
    have hz : ((L.length : Int) == 0) = true := by simp [h0]
    clear h0
    go_enter Tryd.func16, Tryd.ntmps16
    go_wp2
    go_ret
    exact ⟨ret_int HC.out.symm, rfl⟩
  have hz : ((L.length : Int) == 0) = false := by simp; exact fun h => h0 (by simp [h])
  by_cases hl : 50 < L.length
  · have HC : Hid (checkSh L = 2) := by
      have : checkSh L = 2 := by unfold checkSh; rw [if_neg h0, if_pos hl]
      exact this
    clear h0
    go_enter Tryd.func16, Tryd.ntmps16
    go_wp2
    go_ret
    exact ⟨ret_int HC.out.symm, rfl⟩
  have HC : Hid (checkSh L = scanS none L) := by
    have : checkSh L = scanS none L := by unfold checkSh; rw [if_neg h0, if_neg hl]
    exact this
  clear h0
  go_enter Tryd.func16, Tryd.ntmps16
  go_wp2
  go_loop [15] (fun i => ∃ k : Nat, k ≤ L.length ∧ i = .int .i64 k ∧ Hid (checkSh L = scanS (prevS L k) (L.drop k))) (fun i => L.length - (intOf i).toNat)
  case atStart => exact ⟨0, by omega, rfl, HC⟩
  case round =>
    obtain ⟨k, hk, rfl, HK⟩ := hrel
    by_cases hlt : k < L.length
    · have hgk := List.getElem?_eq_getElem hlt
      have hsz := HOK.out L[k] (List.getElem_mem _)
      generalize L[k] = s at hgk hsz
      obtain ⟨b, o, rfl, e0⟩ := str_cell hs hgk
      have HST := Lib.hid (scanS_step (prevS L k) hgk)
      have HP : Hid (prevS L (k + 1) = some s) := hgk
      clear hgk
      by_cases hn : nameB s.data.toList = false
      · have HF : Hid (checkSh L = 5) := by have := HK.out; rw [HST.out, if_pos hn] at this; exact this
        go_wp2_with (go_at_call 27; refine (rule_XisName s hsz _).mono ?_; rintro e w' ⟨rfl, rfl⟩)
        go_ret
        exact ⟨ret_int HF.out.symm, rfl⟩
      have hn' : nameB s.data.toList = true := by simpa using hn
      have HS2 : Hid (checkSh L = if (match prevS L k with | none => false | some q => decide (cmpS s q ≤ 0)) = true then 8 else scanS (some s) (L.drop (k + 1))) := by
        have := HK.out; rw [HST.out, if_neg (by simp [hn'])] at this; exact this
      clear hn
      by_cases h0 : k = 0
      · subst h0
        simp only [Nat.add_zero] at e0
        have HS3 : Hid (checkSh L = scanS (prevS L (0 + 1)) (L.drop (0 + 1))) := by have := HS2.out; simp only [prevS] at this; rw [HP.out]; exact (by simpa using this : checkSh L = scanS (some s) (L.drop (0 + 1)))
        go_wp2_with (go_at_call 27; refine (rule_XisName s hsz _).mono ?_; rintro e w' ⟨rfl, rfl⟩)
        go_round
        case rel => exact ⟨0 + 1, by omega, rfl, HS3⟩
        case measure => simp [intOf]; omega
      · obtain ⟨j, rfl⟩ : ∃ j, k = j + 1 := ⟨k - 1, by omega⟩
        have hgj := List.getElem?_eq_getElem (show j < L.length by omega)
        have HS3 : Hid (checkSh L = if decide (cmpS s L[j] ≤ 0) = true then 8 else scanS (prevS L (j + 1 + 1)) (L.drop (j + 1 + 1))) := by
          have := HS2.out; rw [show prevS L (j + 1) = some L[j] from hgj] at this; rw [HP.out]; exact this
        generalize L[j] = s' at hgj HS3
        obtain ⟨b', o', hb', f0⟩ := str_cell hs hgj
        cases hb'
        have hlq := leq_of s s'
        clear hgj h0 HS2 HST
        by_cases ho : cmpS s s' ≤ 0
        · have HF : Hid (checkSh L = 8) := by have h1 := HS3.out; rw [if_pos (decide_eq_true ho)] at h1; exact h1
          rw [decide_eq_true ho] at hlq
          clear ho
          go_wp2_with (go_at_call 27; refine (rule_XisName s hsz _).mono ?_; rintro e w' ⟨rfl, rfl⟩)
          all_goals first | (go_ret; exact ⟨ret_int HF.out.symm, rfl⟩) | (exfalso; simp_all; done)
        · have HS4 : Hid (checkSh L = scanS (prevS L (j + 1 + 1)) (L.drop (j + 1 + 1))) := by
            have h1 := HS3.out
            rw [if_neg (by simp; omega)] at h1; exact h1
          rw [decide_eq_false ho] at hlq
          clear ho
          go_wp2_with (go_at_call 27; refine (rule_XisName s hsz _).mono ?_; rintro e w' ⟨rfl, rfl⟩)
          all_goals go_round
          case rel => exact ⟨j + 1 + 1, by omega, by go_num, HS4⟩
          case measure => simp [intOf]; omega
    · have HF : Hid (checkSh L = 0) := by
        have := HK.out
        rw [drop_nil L k (by omega)] at this
        rw [this]; rfl
      go_wp2
      go_ret
      exact ⟨ret_int HF.out.symm, rfl⟩

end Go.Proofs.YtbbfdkjamjmbmaaDoor
