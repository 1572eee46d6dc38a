/- trim, XnatOf, Cmp of package value. Add, Less of package value. slices.Clone at words, Less of package value. -/
import Derived.Test.YtilolnjbpokdnaaGreatDoorBq03
import Derived.Deep.QuietTactic
import Derived.BigQuiet
namespace Go.Proofs.YtilolnjbpokdnaaGreatDoor
open Go.RowKit
namespace Nm
set_option maxHeartbeats 2000000 in
theorem trim_at (l : List Nat) (hd : Dg l) (v : Value) (w : World) (hs : Sl w v l.length (wcs l)) : Calls Tryz.prog 158 #[v] w (TrimPost w (val l)) := by
  obtain ⟨a, c, rfl, hs0⟩ := id hs
  obtain ⟨hc1, hc2⟩ := sl_caps hs
  have HD := Lib.hid hd
  clear hd hs0
  go_enter Tryz.func158, Tryz.ntmps158
  go_wp2
  go_loop [0] (fun t => ∃ k : Nat, k ≤ l.length ∧ t = .slice a k c ∧ Hid (val (l.take k) = val l)) (fun t => match t with | .slice _ k _ => k | _ => 0)
  case atStart => exact ⟨l.length, by omega, rfl, by have : val (l.take l.length) = val l := by rw [List.take_length]
                                                     exact this⟩
  case round =>
    obtain ⟨k, hk, rfl, HV⟩ := hrel
    cases k with
    | zero =>
      go_wp2
      go_ret
      refine ⟨_, rfl, ?_, rfl⟩
      have e := digs_take HD.out (k := 0) (by omega) HV.out (fun j hj h => by omega)
      have hs2 := sl_take hs (k := 0) (by omega)
      unfold N wlen; rw [e]; simpa [wcs] using hs2
    | succ j =>
      have hj : j < l.length := by omega
      obtain ⟨b, o, rfl, e0⟩ := sl_addr hs (wcs_get hj)
      by_cases hz : l[j] = 0
      · have HV2 := Lib.hid (val_take_zero hj HV.out hz)
        rw [hz] at e0
        clear hz
        go_wp2
        go_round
        case rel => exact ⟨j, by omega, by go_num, HV2⟩
        case measure => simp
      · have hne : ((l[j] : Int) == 0) = false := by simp; omega
        have HZ := Lib.hid hz
        clear hz
        go_wp2
        go_ret
        refine ⟨_, rfl, ?_, rfl⟩
        have e := digs_take HD.out (k := j + 1) (by omega) HV.out (fun i hi h => by obtain rfl : i = j := (by omega); exact HZ.out)
        have hs2 := sl_take hs (k := j + 1) (by omega)
        unfold N wlen; rw [e, List.length_take, Nat.min_eq_left (by omega), ← wcs_take]; exact hs2
/-- trim, with the address that it keeps -/
def TrimKeep (w : World) (a : Option Addr) (c n : Nat) (e : Ending) (w' : World) : Prop := e = .returned (.slice a (wlen n) c) ∧ N w (.slice a (wlen n) c) n ∧ w = w'
set_option maxHeartbeats 2000000 in
theorem trim_keep (l : List Nat) (hd : Dg l) (a : Option Addr) (c : Nat) (w : World) (hs : Sl w (.slice a l.length c) l.length (wcs l)) : Calls Tryz.prog 158 #[.slice a l.length c] w (TrimKeep w a c (val l)) := by
  obtain ⟨hc1, hc2⟩ := sl_caps hs
  have HD := Lib.hid hd
  clear hd
  go_enter Tryz.func158, Tryz.ntmps158
  go_wp2
  go_loop [0] (fun t => ∃ k : Nat, k ≤ l.length ∧ t = .slice a k c ∧ Hid (val (l.take k) = val l)) (fun t => match t with | .slice _ k _ => k | _ => 0)
  case atStart => exact ⟨l.length, by omega, rfl, by have : val (l.take l.length) = val l := by rw [List.take_length]
                                                     exact this⟩
  case round =>
    obtain ⟨k, hk, rfl, HV⟩ := hrel
    cases k with
    | zero =>
      go_wp2
      go_ret
      have e := digs_take HD.out (k := 0) (by omega) HV.out (fun j hj h => by omega)
      have hs2 := sl_take hs (k := 0) (by omega)
      have hw : wlen (val l) = 0 := by unfold wlen; rw [e]; simp
      refine ⟨by rw [hw]; rfl, ?_, rfl⟩
      rw [hw]; unfold N; rw [hw, e]; simpa [wcs] using hs2
    | succ j =>
      have hj : j < l.length := by omega
      obtain ⟨b, o, rfl, e0⟩ := sl_addr hs (wcs_get hj)
      by_cases hz : l[j] = 0
      · have HV2 := Lib.hid (val_take_zero hj HV.out hz)
        rw [hz] at e0
        clear hz
        go_wp2
        go_round
        case rel => exact ⟨j, by omega, by go_num, HV2⟩
        case measure => simp
      · have hne : ((l[j] : Int) == 0) = false := by simp; omega
        have HZ := Lib.hid hz
        clear hz
        go_wp2
        go_ret
        have e := digs_take HD.out (k := j + 1) (by omega) HV.out (fun i hi h => by obtain rfl : i = j := (by omega); exact HZ.out)
        have hs2 := sl_take hs (k := j + 1) (by omega)
        have hw : wlen (val l) = j + 1 := by unfold wlen; rw [e, List.length_take, Nat.min_eq_left (by omega)]
        refine ⟨by rw [hw]; rfl, ?_, rfl⟩
        rw [hw]; unfold N; rw [hw, e, ← wcs_take]; exact hs2
theorem xnatOf_at (n : Nat) (hn : n < 18446744073709551616) (w : World) : Calls Tryz.prog 160 #[.int .u64 (n : Int)] w (NPost w n) := by
  go_enter Tryz.func160, Tryz.ntmps160
  go_wp2_with fail
  have hO := Own.new w [n % 4294967296, n / 4294967296]
  have hS := hO.sl (c := 2) (by simp) (by decide)
  have hD : Dg [n % 4294967296, n / 4294967296] := Dg.cons.2 ⟨Nat.mod_lt _ (by decide), Dg.cons.2 ⟨by rw [B_eq]; omega, Dg.nil⟩⟩
  have hV : val [n % 4294967296, n / 4294967296] = n := by simp only [val, B_eq]; omega
  have hT := trim_at _ hD _ _ hS
  rw [hV] at hT
  refine Calls.mono hT ?_
  rintro e w' ⟨v, rfl, hv, rfl⟩
  clear hT hS hO hD hV
  go_wp2
  go_ret
  exact ⟨_, rfl, hv, by go_grown⟩
def QPost (w : World) (v : Value) (e : Ending) (w' : World) : Prop := e = .returned v ∧ ∃ k, w' = w.drewN k
set_option maxHeartbeats 4000000 in
theorem cmp_at (x y : Nat) (v u : Value) (w : World) (hx : N w v x) (hy : N w u y) : Calls Tryz.prog 123 #[v, u] w (QPost w (.int .i64 (cmpN x y))) := by
  obtain ⟨a, c, rfl, s1⟩ := hx.open_
  obtain ⟨a', c', rfl, s2⟩ := hy.open_
  obtain ⟨p1, p2⟩ := sl_caps s1
  obtain ⟨q1, q2⟩ := sl_caps s2
  have HX := Lib.hid (digs_dg x)
  have HY := Lib.hid (digs_dg y)
  clear hx hy
  by_cases hlen : (digs x).length = (digs y).length
  · have HE : Hid ((digs x).drop (digs x).length = (digs y).drop (digs x).length) := by
      have : (digs x).drop (digs x).length = (digs y).drop (digs x).length := by rw [List.drop_length, hlen, List.drop_length]
      exact this
    rw [← hlen] at s2 q1
    have HL := Lib.hid hlen
    have hb : (((digs x).length : Int) != ((digs x).length : Int)) = false := by simp
    rw [← hlen]
    clear hlen
    go_enter Tryz.func123, Tryz.ntmps123
    go_wp2
    go_loopw [5] (fun i wr => ∃ k m : Nat, k ≤ (digs x).length ∧ wr = w.drewN m ∧ i = .int .i64 ((k : Int) - 1) ∧ Hid ((digs x).drop k = (digs y).drop k)) (fun i _ => (intOf i + 1).toNat)
    case atStart => exact ⟨_, 0, Nat.le_refl _, rfl, rfl, HE⟩
    case round =>
      obtain ⟨k, m, hk, rfl, rfl, HK⟩ := hrel
      cases k with
      | zero =>
        go_wp2
        go_ret
        exact ⟨ret_int (cmpN_eq (digs_inj (by simpa using HK.out))).symm, _, rfl⟩
      | succ j =>
        have hj : j < (digs x).length := by omega
        have hj' : j < (digs y).length := by rw [← HL.out]; exact hj
        obtain ⟨b, o, rfl, e0⟩ := sl_addr s1 (wcs_get hj)
        obtain ⟨b', o', rfl, f0⟩ := sl_addr s2 (wcs_get hj')
        have HLT := Lib.hid (val_lt_of HX.out hj hj' HK.out)
        have HGT := Lib.hid (val_lt_of HY.out hj' hj HK.out.symm)
        have HEQ : Hid ((digs x)[j] = (digs y)[j] → (digs x).drop j = (digs y).drop j) := by
          have : (digs x)[j] = (digs y)[j] → (digs x).drop j = (digs y).drop j := fun h => by rw [List.drop_eq_getElem_cons hj, List.drop_eq_getElem_cons hj', h, HK.out]
          exact this
        rw [show (((j + 1 : Nat) : Int) - 1) = (j : Int) by omega]
        generalize (digs x)[j] = X at *
        generalize (digs y)[j] = Y at *
        rcases Nat.lt_trichotomy X Y with h | h | h
        · have HR := Lib.hid (HLT.out h)
          have hb2 : ((X : Int) != (Y : Int)) = true := by simp; omega
          clear HLT HGT HEQ
          go_wp2
          go_quiet (fail)
          go_wp2
          go_quiet (fail)
          go_wp2
          go_ret
          exact ⟨ret_int (cmpN_lt (by simpa [val_digs] using HR.out)).symm, _, by rw [World.drewN_drewN, World.drewN_drewN]⟩
        · subst h
          have HR := Lib.hid (HEQ.out rfl)
          have hb2 : ((X : Int) != (X : Int)) = false := by simp
          clear HLT HGT HEQ
          go_wp2
          go_quiet (fail)
          go_wp2
          go_roundw
          case rel => exact ⟨j, _, by omega, rfl, rfl, HR⟩
          case measure => simp [intOf]
        · have HR := Lib.hid (HGT.out h)
          have hb2 : ((X : Int) != (Y : Int)) = true := by simp; omega
          clear HLT HGT HEQ
          go_wp2
          go_quiet (fail)
          go_wp2
          go_quiet (fail)
          go_wp2
          go_ret
          exact ⟨ret_int (cmpN_gt (by simpa [val_digs] using HR.out)).symm, _, by rw [World.drewN_drewN, World.drewN_drewN]⟩
  · have HL : Hid (∀ b, decide ((digs x).length < (digs y).length) = b → cmpN x y = if b then -1 else 1) := by
      have : ∀ b, decide ((digs x).length < (digs y).length) = b → cmpN x y = if b then -1 else 1 := fun b hb => by
        subst hb
        by_cases h : (digs x).length < (digs y).length
        · rw [cmpN_lt (lt_of_wlen h)]; simp [h]
        · rw [cmpN_gt (lt_of_wlen (show wlen y < wlen x by unfold wlen; omega))]; simp [h]
      exact this
    have hb : (((digs x).length : Int) != ((digs y).length : Int)) = true := by simp; omega
    by_cases h : (digs x).length < (digs y).length
    · have HR := Lib.hid (HL.out true (decide_eq_true h))
      clear hlen
      go_enter Tryz.func123, Tryz.ntmps123
      go_wp2
      go_ret
      exact ⟨ret_int HR.out.symm, 0, rfl⟩
    · have HR := Lib.hid (HL.out false (decide_eq_false h))
      clear hlen
      go_enter Tryz.func123, Tryz.ntmps123
      go_wp2
      go_ret
      exact ⟨ret_int HR.out.symm, 0, rfl⟩
end Nm
end Go.Proofs.YtilolnjbpokdnaaGreatDoor
namespace Go.Proofs.YtilolnjbpokdnaaGreatDoor
open Go.RowKit
namespace Nm
set_option maxHeartbeats 4000000 in
theorem add_body (x y : Nat) (v u : Value) (w : World) (hx : N w v x) (hy : N w u y) (hxl : wlen x ≤ 1000000000) (hl : wlen y ≤ wlen x) : Calls Tryz.prog 125 #[v, u] w (NPost w (x + y)) := by
  obtain ⟨a, c, rfl, s1⟩ := hx.open_
  obtain ⟨a', c', rfl, s2⟩ := hy.open_
  obtain ⟨p1, p2⟩ := sl_caps s1
  obtain ⟨q1, q2⟩ := sl_caps s2
  have HX := Lib.hid (digs_dg x)
  have HY := Lib.hid (digs_dg y)
  unfold wlen at hl hxl
  clear hx hy
  go_enter Tryz.func125, Tryz.ntmps125
  go_wp2_with (refine wpList_make_words rfl _ _ rfl ((digs x).length + 1) rfl rfl ?_ ?_ ?_; rotate_left 2; intro W hO hB hsz)
  case refine_1 => go_num
  case refine_2 => omega
  clear hsz
  have HZ : Hid (val ((List.replicate ((digs x).length + 1) 0).take 0) + B ^ 0 * 0 = val ((digs x).take 0) + val ((digs y).take 0)) := by
    have : val ((List.replicate ((digs x).length + 1) 0).take 0) + B ^ 0 * 0 = val ((digs x).take 0) + val ((digs y).take 0) := by simp [val]
    exact this
  go_loopw [6, 22] (fun cv iv wr => ∃ (k cr : Nat) (out : List Nat), k ≤ (digs x).length ∧ iv = .int .i64 k ∧ cv = .int .u64 cr ∧ cr ≤ 1 ∧ Hid (out.length = (digs x).length + 1) ∧ Hid (Dg out) ∧ Hid (val (out.take k) + B ^ k * cr = val ((digs x).take k) + val ((digs y).take k)) ∧ Own wr w.heap.size out ∧ Below w.heap.size w wr) (fun _ iv _ => (digs x).length - (intOf iv).toNat)
  case atStart => exact ⟨0, 0, List.replicate ((digs x).length + 1) 0, by omega, rfl, rfl, by omega, by have := @List.length_replicate Nat ((digs x).length + 1) 0; exact this, Dg.zeros _, HZ, hO, hB⟩
  case round =>
    obtain ⟨k, cr, out, hk, rfl, rfl, hcr, HL, HDo, HV, hOk, hBk⟩ := hrel
    have hko : k < out.length := by have := HL.out; omega
    have o0 := hOk.cell hko
    have o1 := hOk.frozen k
    by_cases hlt : k < (digs x).length
    · obtain ⟨b, o, rfl, e0⟩ := sl_addr (s1.ext hBk) (wcs_get hlt)
      have hX := HX.out.get hlt
      have hV1 := val_take_succ (digs x) k hlt
      have hV2 := val_take_wd (digs y) k
      by_cases hly : k < (digs y).length
      · obtain ⟨b', o', rfl, f0⟩ := sl_addr (s2.ext hBk) (wcs_get hly)
        have hY := HY.out.get hly
        rw [wd_get hly] at hV2
        generalize (digs x)[k] = X at *
        generalize (digs y)[k] = Y at *
        rw [B_eq] at hX hY
        have HR : Hid (val ((out.set k ((cr + X + Y) % 4294967296)).take (k + 1)) + B ^ (k + 1) * ((cr + X + Y) / 4294967296) = val ((digs x).take (k + 1)) + val ((digs y).take (k + 1))) := by
          have := add_step (x := X) (y := Y) HV.out
          rw [← hV1, ← hV2, ← val_take_set out k _ hko, B_eq] at this
          exact this
        clear hV1 hV2
        go_wp2
        go_roundw
        case rel => exact ⟨k + 1, (cr + X + Y) / 4294967296, out.set k ((cr + X + Y) % 4294967296), by omega, by go_num, by go_num, by omega, Hid.len_set HL _ _, Hid.dg_set HDo _ (Nat.mod_lt _ B_pos), HR, hOk.set' hko _ (by omega), hBk.setCell (Nat.le_refl _) _⟩
        case measure => simp [intOf]; omega
      · rw [wd_past (by omega)] at hV2
        generalize (digs x)[k] = X at *
        rw [B_eq] at hX
        have HR : Hid (val ((out.set k ((cr + X) % 4294967296)).take (k + 1)) + B ^ (k + 1) * ((cr + X) / 4294967296) = val ((digs x).take (k + 1)) + val ((digs y).take (k + 1))) := by
          have := add_step (x := X) (y := 0) HV.out
          rw [← hV1, ← hV2, Nat.add_zero, ← val_take_set out k _ hko, B_eq] at this
          exact this
        clear hV1 hV2
        go_wp2
        go_roundw
        case rel => exact ⟨k + 1, (cr + X) / 4294967296, out.set k ((cr + X) % 4294967296), by omega, by go_num, by go_num, by omega, Hid.len_set HL _ _, Hid.dg_set HDo _ (Nat.mod_lt _ B_pos), HR, hOk.set' hko _ (by omega), hBk.setCell (Nat.le_refl _) _⟩
        case measure => simp [intOf]; omega
    · obtain rfl : k = (digs x).length := by omega
      have HF : Hid (val (out.set (digs x).length cr) = x + y) := by
        have h1 := val_take_set out (digs x).length cr hko
        rw [List.take_of_length_le (by rw [List.length_set, HL.out]; omega), HV.out, List.take_length, List.take_of_length_le hl, val_digs, val_digs] at h1
        exact h1
      have HL2 := Hid.len_set HL (digs x).length cr
      have HD2 := Hid.dg_set HDo (digs x).length (x := cr) (by rw [B_eq]; omega)
      have hO2 := hOk.set hko cr
      have hB2 := hBk.setCell (Nat.le_refl _) (p := ⟨w.heap.size, (digs x).length, none⟩) (.int .u32 (cr : Int))
      clear HL HDo HV hOk hBk
      go_wp2_with fail
      generalize out.set (digs x).length cr = fin at *
      have hs := hO2.sl (c := (digs x).length + 1) (by rw [HL2.out]; omega) (by unfold maxLen; omega)
      have hT := trim_at fin HD2.out _ _ hs
      rw [HL2.out, HF.out] at hT
      refine Calls.mono hT ?_
      rintro e w' ⟨v, rfl, hv, rfl⟩
      clear hT hs
      go_wp2
      go_ret
      exact ⟨_, rfl, hv, hB2⟩
set_option maxHeartbeats 4000000 in
theorem add_body2 (x y : Nat) (v u : Value) (w : World) (hx : N w v x) (hy : N w u y) (hxl : wlen x ≤ 1000000000) (hl : wlen y < wlen x) : Calls Tryz.prog 125 #[u, v] w (NPost w (x + y)) := by
  obtain ⟨a, c, rfl, s1⟩ := hx.open_
  obtain ⟨a', c', rfl, s2⟩ := hy.open_
  obtain ⟨p1, p2⟩ := sl_caps s1
  obtain ⟨q1, q2⟩ := sl_caps s2
  have HX := Lib.hid (digs_dg x)
  have HY := Lib.hid (digs_dg y)
  unfold wlen at hl hxl
  clear hx hy
  go_enter Tryz.func125, Tryz.ntmps125
  go_wp2_with (refine wpList_make_words rfl _ _ rfl ((digs x).length + 1) rfl rfl ?_ ?_ ?_; rotate_left 2; intro W hO hB hsz)
  case refine_1 => go_num
  case refine_2 => omega
  clear hsz
  have HZ : Hid (val ((List.replicate ((digs x).length + 1) 0).take 0) + B ^ 0 * 0 = val ((digs x).take 0) + val ((digs y).take 0)) := by
    have : val ((List.replicate ((digs x).length + 1) 0).take 0) + B ^ 0 * 0 = val ((digs x).take 0) + val ((digs y).take 0) := by simp [val]
    exact this
  go_loopw [6, 22] (fun cv iv wr => ∃ (k cr : Nat) (out : List Nat), k ≤ (digs x).length ∧ iv = .int .i64 k ∧ cv = .int .u64 cr ∧ cr ≤ 1 ∧ Hid (out.length = (digs x).length + 1) ∧ Hid (Dg out) ∧ Hid (val (out.take k) + B ^ k * cr = val ((digs x).take k) + val ((digs y).take k)) ∧ Own wr w.heap.size out ∧ Below w.heap.size w wr) (fun _ iv _ => (digs x).length - (intOf iv).toNat)
  case atStart => exact ⟨0, 0, List.replicate ((digs x).length + 1) 0, by omega, rfl, rfl, by omega, by have := @List.length_replicate Nat ((digs x).length + 1) 0; exact this, Dg.zeros _, HZ, hO, hB⟩
  case round =>
    obtain ⟨k, cr, out, hk, rfl, rfl, hcr, HL, HDo, HV, hOk, hBk⟩ := hrel
    have hko : k < out.length := by have := HL.out; omega
    have o0 := hOk.cell hko
    have o1 := hOk.frozen k
    by_cases hlt : k < (digs x).length
    · obtain ⟨b, o, rfl, e0⟩ := sl_addr (s1.ext hBk) (wcs_get hlt)
      have hX := HX.out.get hlt
      have hV1 := val_take_succ (digs x) k hlt
      have hV2 := val_take_wd (digs y) k
      by_cases hly : k < (digs y).length
      · obtain ⟨b', o', rfl, f0⟩ := sl_addr (s2.ext hBk) (wcs_get hly)
        have hY := HY.out.get hly
        rw [wd_get hly] at hV2
        generalize (digs x)[k] = X at *
        generalize (digs y)[k] = Y at *
        rw [B_eq] at hX hY
        have HR : Hid (val ((out.set k ((cr + X + Y) % 4294967296)).take (k + 1)) + B ^ (k + 1) * ((cr + X + Y) / 4294967296) = val ((digs x).take (k + 1)) + val ((digs y).take (k + 1))) := by
          have := add_step (x := X) (y := Y) HV.out
          rw [← hV1, ← hV2, ← val_take_set out k _ hko, B_eq] at this
          exact this
        clear hV1 hV2
        go_wp2
        go_roundw
        case rel => exact ⟨k + 1, (cr + X + Y) / 4294967296, out.set k ((cr + X + Y) % 4294967296), by omega, by go_num, by go_num, by omega, Hid.len_set HL _ _, Hid.dg_set HDo _ (Nat.mod_lt _ B_pos), HR, hOk.set' hko _ (by omega), hBk.setCell (Nat.le_refl _) _⟩
        case measure => simp [intOf]; omega
      · rw [wd_past (by omega)] at hV2
        generalize (digs x)[k] = X at *
        rw [B_eq] at hX
        have HR : Hid (val ((out.set k ((cr + X) % 4294967296)).take (k + 1)) + B ^ (k + 1) * ((cr + X) / 4294967296) = val ((digs x).take (k + 1)) + val ((digs y).take (k + 1))) := by
          have := add_step (x := X) (y := 0) HV.out
          rw [← hV1, ← hV2, Nat.add_zero, ← val_take_set out k _ hko, B_eq] at this
          exact this
        clear hV1 hV2
        go_wp2
        go_roundw
        case rel => exact ⟨k + 1, (cr + X) / 4294967296, out.set k ((cr + X) % 4294967296), by omega, by go_num, by go_num, by omega, Hid.len_set HL _ _, Hid.dg_set HDo _ (Nat.mod_lt _ B_pos), HR, hOk.set' hko _ (by omega), hBk.setCell (Nat.le_refl _) _⟩
        case measure => simp [intOf]; omega
    · obtain rfl : k = (digs x).length := by omega
      have HF : Hid (val (out.set (digs x).length cr) = x + y) := by
        have h1 := val_take_set out (digs x).length cr hko
        rw [List.take_of_length_le (by rw [List.length_set, HL.out]; omega), HV.out, List.take_length, List.take_of_length_le (Nat.le_of_lt hl), val_digs, val_digs] at h1
        exact h1
      have HL2 := Hid.len_set HL (digs x).length cr
      have HD2 := Hid.dg_set HDo (digs x).length (x := cr) (by rw [B_eq]; omega)
      have hO2 := hOk.set hko cr
      have hB2 := hBk.setCell (Nat.le_refl _) (p := ⟨w.heap.size, (digs x).length, none⟩) (.int .u32 (cr : Int))
      clear HL HDo HV hOk hBk
      go_wp2_with fail
      generalize out.set (digs x).length cr = fin at *
      have hs := hO2.sl (c := (digs x).length + 1) (by rw [HL2.out]; omega) (by unfold maxLen; omega)
      have hT := trim_at fin HD2.out _ _ hs
      rw [HL2.out, HF.out] at hT
      refine Calls.mono hT ?_
      rintro e w' ⟨v, rfl, hv, rfl⟩
      clear hT hs
      go_wp2
      go_ret
      exact ⟨_, rfl, hv, hB2⟩
theorem add_at (x y : Nat) (v u : Value) (w : World) (hx : N w v x) (hy : N w u y) (h1 : wlen x ≤ 1000000000) (h2 : wlen y ≤ 1000000000) : Calls Tryz.prog 125 #[v, u] w (NPost w (x + y)) := by
  by_cases h : wlen y ≤ wlen x
  · exact add_body x y v u w hx hy h1 h
  · rw [Nat.add_comm]; exact add_body2 y x u v w hy hx h2 (by omega)
end Nm
end Go.Proofs.YtilolnjbpokdnaaGreatDoor
namespace Go.Proofs.YtilolnjbpokdnaaGreatDoor
open Go.RowKit
namespace Nm
/-- a copy of the call's own -/
def ClonePost (w : World) (l : List Nat) (e : Ending) (w' : World) : Prop :=
  ∃ b c, e = .returned (.slice (some ⟨b, 0, none⟩) l.length c) ∧ w.heap.size ≤ b ∧ l.length ≤ c ∧ c ≤ maxLen ∧ Own w' b l ∧ Below w.heap.size w w'
set_option maxHeartbeats 2000000 in
theorem clone_at (l : List Nat) (a : Option Addr) (c : Nat) (w : World) (hs : Sl w (.slice a l.length c) l.length (wcs l)) (hl : 0 < l.length) (hb : l.length ≤ 1000000000) : Calls Tryz.prog 162 #[.slice a l.length c] w (ClonePost w l) := by
  obtain ⟨b, o, rfl, e0⟩ := sl_addr hs (wcs_get hl)
  have hnil := fun wx => Lib.run_eql_slice_nil (P := Tryz.prog) wx 90 189 (some ⟨b, o, none⟩) l.length c 0 0 Tryz.underlying90
  have HB := Lib.hid u32_info
  clear e0
  go_enter Tryz.func162, Tryz.ntmps162
  have hown0 : (w.alloc (Obj.cells #[] 189)).ownsRow w.heap.size 189 1 (.slice (some ⟨w.heap.size, 0, none⟩) 0 0) 0 [] := ⟨rfl, .inr ⟨w.heap.size, 0, #[], rfl, Nat.le_refl _, heap_alloc_new w _, Nat.le_refl _, Nat.zero_le _, rfl, rfl⟩⟩
  have hs2 := hs.ext (w' := w.alloc (Obj.cells #[] 189)) (by go_grown)
  go_wp2_with (at_builtin; refine wpList_append_sl rfl _ _ 90 rfl w.heap.size 189 Tryz.underlying90 HB.out rfl (by decide) rfl hown0 rfl hs2 ?c1 (wcs_one _) ?c2 ?c3 ?c4 ?_; rotate_left 4; intro v2 w2 hown2 hg2 hv2)
  case c1 => rw [wcs_length, Nat.mul_one]
  case c2 => unfold maxLen; omega
  case c3 => omega
  case c4 => simp
  have hb2 : Below w.heap.size w w2 := Below.grown (show Below w.heap.size w (w.alloc (Obj.cells #[] 189)) by go_grown) hg2 (by simp) (fun k e => by cases e; exact Nat.le_refl _)
  rw [List.nil_append, Nat.zero_add] at hown2
  obtain ⟨g, cap, rfl, h1, h2, h3, h4⟩ := Own.ofRow hown2 hl
  clear hown0 hs2 hown2 hg2 hv2
  go_wp2
  go_ret
  exact ⟨g, cap, rfl, h1, h2, h3, h4, hb2⟩
/-- a step of the difference -/
theorem sub_step {P V A C br br' X Y z : Nat} (h : V + C = A + P * br) (hz : z + Y + br = X + B * br') : (V + P * z) + (C + P * Y) = (A + P * X) + P * B * br' := by
  have e : P * (z + Y + br) = P * (X + B * br') := by rw [hz]
  rw [Nat.mul_add, Nat.mul_add, Nat.mul_add, ← Nat.mul_assoc] at e
  omega
theorem less_end {V y x n br : Nat} (hV : V < n) (h : V + y = x + n * br) (hle : y ≤ x) (hb : br ≤ 1) : V = x - y := by
  obtain rfl | rfl : br = 0 ∨ br = 1 := by omega
  · omega
  · rw [Nat.mul_one] at h; omega
set_option maxHeartbeats 8000000 in
theorem less_at (x y : Nat) (v u : Value) (w : World) (hx : N w v x) (hy : N w u y) (hxl : wlen x ≤ 1000000000) (hle : y ≤ x) (h0 : 0 < x) : Calls Tryz.prog 126 #[v, u] w (NPost w (x - y)) := by
  have hl := wlen_mono hle
  have hpos : 0 < wlen x := by have := @wlen_eq_zero x; omega
  obtain ⟨a, c, rfl, s1⟩ := hx.open_
  obtain ⟨a', c', rfl, s2⟩ := hy.open_
  obtain ⟨p1, p2⟩ := sl_caps s1
  obtain ⟨q1, q2⟩ := sl_caps s2
  have HX := Lib.hid (digs_dg x)
  have HY := Lib.hid (digs_dg y)
  unfold wlen at hl hxl hpos
  clear hx hy
  go_enter Tryz.func126, Tryz.ntmps126
  go_wp2_with fail
  refine (clone_at (digs x) a c w s1 hpos hxl).mono ?_
  rintro e W ⟨b, cc, rfl, hbb, hc1, hc2, hO, hB⟩
  have hc3 := hc2
  unfold maxLen at hc3
  have HZ : Hid (val ((digs x).take 0) + val ((digs y).take 0) = val ((digs x).take 0) + B ^ 0 * 0) := by
    have : val ((digs x).take 0) + val ((digs y).take 0) = val ((digs x).take 0) + B ^ 0 * 0 := by simp [val]
    exact this
  go_wp2
  go_loopw [6, 14] (fun cv iv wr => ∃ (k br : Nat) (out : List Nat), k ≤ (digs x).length ∧ iv = .int .i64 k ∧ cv = .int .u64 br ∧ br ≤ 1 ∧ Hid (out.length = (digs x).length) ∧ Hid (Dg out) ∧ Hid (out.drop k = (digs x).drop k) ∧ Hid (val (out.take k) + val ((digs y).take k) = val ((digs x).take k) + B ^ k * br) ∧ Own wr b out ∧ Below w.heap.size w wr) (fun _ iv _ => (digs x).length - (intOf iv).toNat)
  case atStart => exact ⟨0, 0, digs x, by omega, rfl, rfl, by omega, Lib.hid rfl, HX, Lib.hid rfl, HZ, hO, hB⟩
  case round =>
    obtain ⟨k, br, out, hk, rfl, rfl, hbr, HL, HDo, HDR, HV, hOk, hBk⟩ := hrel
    by_cases hlt : k < (digs x).length
    · have hko : k < out.length := by have := HL.out; omega
      have o0 := hOk.cell hko
      have o1 := hOk.frozen k
      have hX := HX.out.get hlt
      have hV1 := val_take_succ (digs x) k hlt
      have hV2 := val_take_wd (digs y) k
      have hXe : out[k] = (digs x)[k] := by
        have := HDR.out
        rw [List.drop_eq_getElem_cons hko, List.drop_eq_getElem_cons hlt] at this
        exact (List.cons.inj this).1
      have HDR2 : ∀ z, Hid ((out.set k z).drop (k + 1) = (digs x).drop (k + 1)) := fun z => by
        have h1 := HDR.out
        rw [List.drop_eq_getElem_cons hko, List.drop_eq_getElem_cons hlt] at h1
        have : (out.set k z).drop (k + 1) = (digs x).drop (k + 1) := by rw [List.drop_set_of_lt (by omega)]; exact (List.cons.inj h1).2
        exact this
      have HST : ∀ z Y br', Hid (wd (digs y) k = Y → z + Y + br = (digs x)[k] + B * br' → val ((out.set k z).take (k + 1)) + val ((digs y).take (k + 1)) = val ((digs x).take (k + 1)) + B ^ (k + 1) * br') := fun z Y br' => by
        have : wd (digs y) k = Y → z + Y + br = (digs x)[k] + B * br' → val ((out.set k z).take (k + 1)) + val ((digs y).take (k + 1)) = val ((digs x).take (k + 1)) + B ^ (k + 1) * br' := fun hY hz => by
          rw [val_take_set out k _ hko, hV1, hV2, hY, Nat.pow_succ]
          exact sub_step HV.out hz
        exact this
      rw [hXe] at o0
      clear hV1 hV2 hXe
      have HST' := Lib.hid HST
      have HDR' := Lib.hid HDR2
      clear HST HDR2
      by_cases hly : k < (digs y).length
      · obtain ⟨b', o', rfl, f0⟩ := sl_addr (s2.ext hBk) (wcs_get hly)
        have hY := HY.out.get hly
        have HWD := Lib.hid (wd_get hly)
        generalize (digs x)[k] = X at *
        generalize (digs y)[k] = Y at *
        rw [B_eq] at hX hY
        by_cases hc : X < br + Y
        · have HR := Lib.hid ((HST'.out (X + 4294967296 - (br + Y)) Y 1).out HWD.out (by rw [B_eq]; omega))
          have HD3 := (HDR'.out (X + 4294967296 - (br + Y)))
          clear HST' HDR'
          go_wp2
          go_roundw
          case rel => exact ⟨k + 1, 1, out.set k (X + 4294967296 - (br + Y)), by omega, by go_num, rfl, by omega, Hid.len_set HL _ _, Hid.dg_set HDo _ (by rw [B_eq]; omega), HD3, HR, hOk.set' hko _ (by omega), hBk.setCell hbb _⟩
          case measure => simp [intOf]; omega
        · have HR := Lib.hid ((HST'.out (X - (br + Y)) Y 0).out HWD.out (by rw [B_eq]; omega))
          have HD3 := (HDR'.out (X - (br + Y)))
          clear HST' HDR'
          go_wp2
          go_roundw
          case rel => exact ⟨k + 1, 0, out.set k (X - (br + Y)), by omega, by go_num, rfl, by omega, Hid.len_set HL _ _, Hid.dg_set HDo _ (by rw [B_eq]; omega), HD3, HR, hOk.set' hko _ (by omega), hBk.setCell hbb _⟩
          case measure => simp [intOf]; omega
      · have HWD := Lib.hid (wd_past (l := digs y) (k := k) (by omega))
        generalize (digs x)[k] = X at *
        rw [B_eq] at hX
        by_cases hc : X < br
        · have HR := Lib.hid ((HST'.out (X + 4294967296 - br) 0 1).out HWD.out (by rw [B_eq]; omega))
          have HD3 := (HDR'.out (X + 4294967296 - br))
          clear HST' HDR'
          go_wp2
          go_roundw
          case rel => exact ⟨k + 1, 1, out.set k (X + 4294967296 - br), by omega, by go_num, rfl, by omega, Hid.len_set HL _ _, Hid.dg_set HDo _ (by rw [B_eq]; omega), HD3, HR, hOk.set' hko _ (by omega), hBk.setCell hbb _⟩
          case measure => simp [intOf]; omega
        · have HR := Lib.hid ((HST'.out (X - br) 0 0).out HWD.out (by rw [B_eq]; omega))
          have HD3 := (HDR'.out (X - br))
          clear HST' HDR'
          go_wp2
          go_roundw
          case rel => exact ⟨k + 1, 0, out.set k (X - br), by omega, by go_num, rfl, by omega, Hid.len_set HL _ _, Hid.dg_set HDo _ (by rw [B_eq]; omega), HD3, HR, hOk.set' hko _ (by omega), hBk.setCell hbb _⟩
          case measure => simp [intOf]; omega
    · obtain rfl : k = (digs x).length := by omega
      have HF : Hid (val out = x - y) := by
        have h1 := HV.out
        have h2 := val_lt HDo.out
        rw [HL.out] at h2
        rw [List.take_of_length_le (by rw [HL.out]; omega), List.take_length, List.take_of_length_le hl, val_digs, val_digs] at h1
        exact less_end h2 h1 hle hbr
      clear HDR HV
      go_wp2_with fail
      have hs := hOk.sl (c := cc) (by rw [HL.out]; omega) hc2
      have hT := trim_at out HDo.out _ _ hs
      rw [HL.out, HF.out] at hT
      refine Calls.mono hT ?_
      rintro e w' ⟨v, rfl, hv, rfl⟩
      clear hT hs
      go_wp2
      go_ret
      exact ⟨_, rfl, hv, hBk⟩
end Nm
end Go.Proofs.YtilolnjbpokdnaaGreatDoor
