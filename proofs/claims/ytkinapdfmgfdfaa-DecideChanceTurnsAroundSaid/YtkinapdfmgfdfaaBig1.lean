/- trim, XnatOf, Cmp of package value. -/
import Derived.Test.YtkinapdfmgfdfaaWord
import Derived.Deep.QuietTactic
import Derived.BigQuiet
namespace Go.Proofs.Ytkinapdfmgfdfaa
open Go.RowKit
namespace Nm
set_option maxHeartbeats 2000000 in
theorem trim_at (l : List Nat) (hd : Dg l) (v : Value) (w : World) (hs : Sl w v l.length (wcs l)) : Calls Try.prog 50 #[v] w (TrimPost w (val l)) := by
  obtain ⟨a, c, rfl, hs0⟩ := id hs
  obtain ⟨hc1, hc2⟩ := sl_caps hs
  have HD := Lib.hid hd
  clear hd hs0
  go_enter Try.func50, Try.ntmps50
  go_wp2
  go_loop [0] (fun t => ∃ k : Nat, k ≤ l.length ∧ t = .slice a k c ∧ Hid (val (l.take k) = val l)) (fun t => match t with | .slice _ k _ => k | _ => 0)
  case atStart => exact ⟨l.length, by omega, rfl, by have : val (l.take l.length) = val l := by rw [List.take_length]
                                                     exact this⟩
  case round =>
    obtain ⟨k, hk, rfl, HV⟩ := hrel
    cases k with
    | zero =>
      go_wp2
      go_ret
      refine ⟨_, rfl, ?_, rfl⟩
      have e := digs_take HD.out (k := 0) (by omega) HV.out (fun j hj h => by omega)
      have hs2 := sl_take hs (k := 0) (by omega)
      unfold N wlen; rw [e]; simpa [wcs] using hs2
    | succ j =>
      have hj : j < l.length := by omega
      obtain ⟨b, o, rfl, e0⟩ := sl_addr hs (wcs_get hj)
      by_cases hz : l[j] = 0
      · have HV2 := Lib.hid (val_take_zero hj HV.out hz)
        rw [hz] at e0
        clear hz
        go_wp2
        go_round
        case rel => exact ⟨j, by omega, by go_num, HV2⟩
        case measure => simp
      · have hne : ((l[j] : Int) == 0) = false := by simp; omega
        have HZ := Lib.hid hz
        clear hz
        go_wp2
        go_ret
        refine ⟨_, rfl, ?_, rfl⟩
        have e := digs_take HD.out (k := j + 1) (by omega) HV.out (fun i hi h => by obtain rfl : i = j := (by omega); exact HZ.out)
        have hs2 := sl_take hs (k := j + 1) (by omega)
        unfold N wlen; rw [e, List.length_take, Nat.min_eq_left (by omega), ← wcs_take]; exact hs2
/-- trim, with the address that it keeps -/
def TrimKeep (w : World) (a : Option Addr) (c n : Nat) (e : Ending) (w' : World) : Prop := e = .returned (.slice a (wlen n) c) ∧ N w (.slice a (wlen n) c) n ∧ w = w'
set_option maxHeartbeats 2000000 in
theorem trim_keep (l : List Nat) (hd : Dg l) (a : Option Addr) (c : Nat) (w : World) (hs : Sl w (.slice a l.length c) l.length (wcs l)) : Calls Try.prog 50 #[.slice a l.length c] w (TrimKeep w a c (val l)) := by
  obtain ⟨hc1, hc2⟩ := sl_caps hs
  have HD := Lib.hid hd
  clear hd
  go_enter Try.func50, Try.ntmps50
  go_wp2
  go_loop [0] (fun t => ∃ k : Nat, k ≤ l.length ∧ t = .slice a k c ∧ Hid (val (l.take k) = val l)) (fun t => match t with | .slice _ k _ => k | _ => 0)
  case atStart => exact ⟨l.length, by omega, rfl, by have : val (l.take l.length) = val l := by rw [List.take_length]
                                                     exact this⟩
  case round =>
    obtain ⟨k, hk, rfl, HV⟩ := hrel
    cases k with
    | zero =>
      go_wp2
      go_ret
      have e := digs_take HD.out (k := 0) (by omega) HV.out (fun j hj h => by omega)
      have hs2 := sl_take hs (k := 0) (by omega)
      have hw : wlen (val l) = 0 := by unfold wlen; rw [e]; simp
      refine ⟨by rw [hw]; rfl, ?_, rfl⟩
      rw [hw]; unfold N; rw [hw, e]; simpa [wcs] using hs2
    | succ j =>
      have hj : j < l.length := by omega
      obtain ⟨b, o, rfl, e0⟩ := sl_addr hs (wcs_get hj)
      by_cases hz : l[j] = 0
      · have HV2 := Lib.hid (val_take_zero hj HV.out hz)
        rw [hz] at e0
        clear hz
        go_wp2
        go_round
        case rel => exact ⟨j, by omega, by go_num, HV2⟩
        case measure => simp
      · have hne : ((l[j] : Int) == 0) = false := by simp; omega
        have HZ := Lib.hid hz
        clear hz
        go_wp2
        go_ret
        have e := digs_take HD.out (k := j + 1) (by omega) HV.out (fun i hi h => by obtain rfl : i = j := (by omega); exact HZ.out)
        have hs2 := sl_take hs (k := j + 1) (by omega)
        have hw : wlen (val l) = j + 1 := by unfold wlen; rw [e, List.length_take, Nat.min_eq_left (by omega)]
        refine ⟨by rw [hw]; rfl, ?_, rfl⟩
        rw [hw]; unfold N; rw [hw, e, ← wcs_take]; exact hs2
theorem xnatOf_at (n : Nat) (hn : n < 18446744073709551616) (w : World) : Calls Try.prog 34 #[.int .u64 (n : Int)] w (NPost w n) := by
  go_enter Try.func34, Try.ntmps34
  go_wp2_with fail
  have hO := Own.new w [n % 4294967296, n / 4294967296]
  have hS := hO.sl (c := 2) (by simp) (by decide)
  have hD : Dg [n % 4294967296, n / 4294967296] := Dg.cons.2 ⟨Nat.mod_lt _ (by decide), Dg.cons.2 ⟨by rw [B_eq]; omega, Dg.nil⟩⟩
  have hV : val [n % 4294967296, n / 4294967296] = n := by simp only [val, B_eq]; omega
  have hT := trim_at _ hD _ _ hS
  rw [hV] at hT
  refine Calls.mono hT ?_
  rintro e w' ⟨v, rfl, hv, rfl⟩
  clear hT hS hO hD hV
  go_wp2
  go_ret
  exact ⟨_, rfl, hv, by go_grown⟩
def QPost (w : World) (v : Value) (e : Ending) (w' : World) : Prop := e = .returned v ∧ ∃ k, w' = w.drewN k
set_option maxHeartbeats 4000000 in
theorem cmp_at (x y : Nat) (v u : Value) (w : World) (hx : N w v x) (hy : N w u y) : Calls Try.prog 46 #[v, u] w (QPost w (.int .i64 (cmpN x y))) := by
  obtain ⟨a, c, rfl, s1⟩ := hx.open_
  obtain ⟨a', c', rfl, s2⟩ := hy.open_
  obtain ⟨p1, p2⟩ := sl_caps s1
  obtain ⟨q1, q2⟩ := sl_caps s2
  have HX := Lib.hid (digs_dg x)
  have HY := Lib.hid (digs_dg y)
  clear hx hy
  by_cases hlen : (digs x).length = (digs y).length
  · have HE : Hid ((digs x).drop (digs x).length = (digs y).drop (digs x).length) := by
      have : (digs x).drop (digs x).length = (digs y).drop (digs x).length := by rw [List.drop_length, hlen, List.drop_length]
      exact this
    rw [← hlen] at s2 q1
    have HL := Lib.hid hlen
    have hb : (((digs x).length : Int) != ((digs x).length : Int)) = false := by simp
    rw [← hlen]
    clear hlen
    go_enter Try.func46, Try.ntmps46
    go_wp2
    go_loopw [5] (fun i wr => ∃ k m : Nat, k ≤ (digs x).length ∧ wr = w.drewN m ∧ i = .int .i64 ((k : Int) - 1) ∧ Hid ((digs x).drop k = (digs y).drop k)) (fun i _ => (intOf i + 1).toNat)
    case atStart => exact ⟨_, 0, Nat.le_refl _, rfl, rfl, HE⟩
    case round =>
      obtain ⟨k, m, hk, rfl, rfl, HK⟩ := hrel
      cases k with
      | zero =>
        go_wp2
        go_ret
        exact ⟨ret_int (cmpN_eq (digs_inj (by simpa using HK.out))).symm, _, rfl⟩
      | succ j =>
        have hj : j < (digs x).length := by omega
        have hj' : j < (digs y).length := by rw [← HL.out]; exact hj
        obtain ⟨b, o, rfl, e0⟩ := sl_addr s1 (wcs_get hj)
        obtain ⟨b', o', rfl, f0⟩ := sl_addr s2 (wcs_get hj')
        have HLT := Lib.hid (val_lt_of HX.out hj hj' HK.out)
        have HGT := Lib.hid (val_lt_of HY.out hj' hj HK.out.symm)
        have HEQ : Hid ((digs x)[j] = (digs y)[j] → (digs x).drop j = (digs y).drop j) := by
          have : (digs x)[j] = (digs y)[j] → (digs x).drop j = (digs y).drop j := fun h => by rw [List.drop_eq_getElem_cons hj, List.drop_eq_getElem_cons hj', h, HK.out]
          exact this
        rw [show (((j + 1 : Nat) : Int) - 1) = (j : Int) by omega]
        generalize (digs x)[j] = X at *
        generalize (digs y)[j] = Y at *
        rcases Nat.lt_trichotomy X Y with h | h | h
        · have HR := Lib.hid (HLT.out h)
          have hb2 : ((X : Int) != (Y : Int)) = true := by simp; omega
          clear HLT HGT HEQ
          go_wp2
          go_quiet (fail)
          go_wp2
          go_quiet (fail)
          go_wp2
          go_ret
          exact ⟨ret_int (cmpN_lt (by simpa [val_digs] using HR.out)).symm, _, by rw [World.drewN_drewN, World.drewN_drewN]⟩
        · subst h
          have HR := Lib.hid (HEQ.out rfl)
          have hb2 : ((X : Int) != (X : Int)) = false := by simp
          clear HLT HGT HEQ
          go_wp2
          go_quiet (fail)
          go_wp2
          go_roundw
          case rel => exact ⟨j, _, by omega, rfl, rfl, HR⟩
          case measure => simp [intOf]
        · have HR := Lib.hid (HGT.out h)
          have hb2 : ((X : Int) != (Y : Int)) = true := by simp; omega
          clear HLT HGT HEQ
          go_wp2
          go_quiet (fail)
          go_wp2
          go_quiet (fail)
          go_wp2
          go_ret
          exact ⟨ret_int (cmpN_gt (by simpa [val_digs] using HR.out)).symm, _, by rw [World.drewN_drewN, World.drewN_drewN]⟩
  · have HL : Hid (∀ b, decide ((digs x).length < (digs y).length) = b → cmpN x y = if b then -1 else 1) := by
      have : ∀ b, decide ((digs x).length < (digs y).length) = b → cmpN x y = if b then -1 else 1 := fun b hb => by
        subst hb
        by_cases h : (digs x).length < (digs y).length
        · rw [cmpN_lt (lt_of_wlen h)]; simp [h]
        · rw [cmpN_gt (lt_of_wlen (show wlen y < wlen x by unfold wlen; omega))]; simp [h]
      exact this
    have hb : (((digs x).length : Int) != ((digs y).length : Int)) = true := by simp; omega
    by_cases h : (digs x).length < (digs y).length
    · have HR := Lib.hid (HL.out true (decide_eq_true h))
      clear hlen
      go_enter Try.func46, Try.ntmps46
      go_wp2
      go_ret
      exact ⟨ret_int HR.out.symm, 0, rfl⟩
    · have HR := Lib.hid (HL.out false (decide_eq_false h))
      clear hlen
      go_enter Try.func46, Try.ntmps46
      go_wp2
      go_ret
      exact ⟨ret_int HR.out.symm, 0, rfl⟩
end Nm
end Go.Proofs.Ytkinapdfmgfdfaa
