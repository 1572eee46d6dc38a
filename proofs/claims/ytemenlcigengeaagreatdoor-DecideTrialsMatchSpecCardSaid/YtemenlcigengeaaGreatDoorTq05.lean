/- trim, XnatOf, Cmp of package value. slices.Clone at words, Less of package value. Times of package value. small, shifted, lowered of package value. -/
import Derived.Test.YtemenlcigengeaaGreatDoorTq03
import Derived.Deep.QuietTactic
import Derived.BigQuiet
import Derived.Laws.BitsAllLaws
namespace Go.Proofs.YtemenlcigengeaaGreatDoor
open Go.RowKit
namespace Nm
set_option maxHeartbeats 2000000 in
theorem trim_at (l : List Nat) (hd : Dg l) (v : Value) (w : World) (hs : Sl w v l.length (wcs l)) : Calls Tryz.prog 101 #[v] w (TrimPost w (val l)) := by
  obtain ⟨a, c, rfl, hs0⟩ := id hs
  obtain ⟨hc1, hc2⟩ := sl_caps hs
  have HD := Lib.hid hd
  clear hd hs0
  go_enter Tryz.func101, Tryz.ntmps101
  go_wp2
  go_loop [0] (fun t => ∃ k : Nat, k ≤ l.length ∧ t = .slice a k c ∧ Hid (val (l.take k) = val l)) (fun t => match t with | .slice _ k _ => k | _ => 0)
  case atStart => exact ⟨l.length, by omega, rfl, by have : val (l.take l.length) = val l := by rw [List.take_length]
                                                     exact this⟩
  case round =>
    obtain ⟨k, hk, rfl, HV⟩ := hrel
    cases k with
    | zero =>
      go_wp2
      go_ret
      refine ⟨_, rfl, ?_, rfl⟩
      have e := digs_take HD.out (k := 0) (by omega) HV.out (fun j hj h => by omega)
      have hs2 := sl_take hs (k := 0) (by omega)
      unfold N wlen; rw [e]; simpa [wcs] using hs2
    | succ j =>
      have hj : j < l.length := by omega
      obtain ⟨b, o, rfl, e0⟩ := sl_addr hs (wcs_get hj)
      by_cases hz : l[j] = 0
      · have HV2 := Lib.hid (val_take_zero hj HV.out hz)
        rw [hz] at e0
        clear hz
        go_wp2
        go_round
        case rel => exact ⟨j, by omega, by go_num, HV2⟩
        case measure => simp
      · have hne : ((l[j] : Int) == 0) = false := by simp; omega
        have HZ := Lib.hid hz
        clear hz
        go_wp2
        go_ret
        refine ⟨_, rfl, ?_, rfl⟩
        have e := digs_take HD.out (k := j + 1) (by omega) HV.out (fun i hi h => by obtain rfl : i = j := (by omega); exact HZ.out)
        have hs2 := sl_take hs (k := j + 1) (by omega)
        unfold N wlen; rw [e, List.length_take, Nat.min_eq_left (by omega), ← wcs_take]; exact hs2
/-- trim, with the address that it keeps -/
def TrimKeep (w : World) (a : Option Addr) (c n : Nat) (e : Ending) (w' : World) : Prop := e = .returned (.slice a (wlen n) c) ∧ N w (.slice a (wlen n) c) n ∧ w = w'
set_option maxHeartbeats 2000000 in
theorem trim_keep (l : List Nat) (hd : Dg l) (a : Option Addr) (c : Nat) (w : World) (hs : Sl w (.slice a l.length c) l.length (wcs l)) : Calls Tryz.prog 101 #[.slice a l.length c] w (TrimKeep w a c (val l)) := by
  obtain ⟨hc1, hc2⟩ := sl_caps hs
  have HD := Lib.hid hd
  clear hd
  go_enter Tryz.func101, Tryz.ntmps101
  go_wp2
  go_loop [0] (fun t => ∃ k : Nat, k ≤ l.length ∧ t = .slice a k c ∧ Hid (val (l.take k) = val l)) (fun t => match t with | .slice _ k _ => k | _ => 0)
  case atStart => exact ⟨l.length, by omega, rfl, by have : val (l.take l.length) = val l := by rw [List.take_length]
                                                     exact this⟩
  case round =>
    obtain ⟨k, hk, rfl, HV⟩ := hrel
    cases k with
    | zero =>
      go_wp2
      go_ret
      have e := digs_take HD.out (k := 0) (by omega) HV.out (fun j hj h => by omega)
      have hs2 := sl_take hs (k := 0) (by omega)
      have hw : wlen (val l) = 0 := by unfold wlen; rw [e]; simp
      refine ⟨by rw [hw]; rfl, ?_, rfl⟩
      rw [hw]; unfold N; rw [hw, e]; simpa [wcs] using hs2
    | succ j =>
      have hj : j < l.length := by omega
      obtain ⟨b, o, rfl, e0⟩ := sl_addr hs (wcs_get hj)
      by_cases hz : l[j] = 0
      · have HV2 := Lib.hid (val_take_zero hj HV.out hz)
        rw [hz] at e0
        clear hz
        go_wp2
        go_round
        case rel => exact ⟨j, by omega, by go_num, HV2⟩
        case measure => simp
      · have hne : ((l[j] : Int) == 0) = false := by simp; omega
        have HZ := Lib.hid hz
        clear hz
        go_wp2
        go_ret
        have e := digs_take HD.out (k := j + 1) (by omega) HV.out (fun i hi h => by obtain rfl : i = j := (by omega); exact HZ.out)
        have hs2 := sl_take hs (k := j + 1) (by omega)
        have hw : wlen (val l) = j + 1 := by unfold wlen; rw [e, List.length_take, Nat.min_eq_left (by omega)]
        refine ⟨by rw [hw]; rfl, ?_, rfl⟩
        rw [hw]; unfold N; rw [hw, e, ← wcs_take]; exact hs2
theorem xnatOf_at (n : Nat) (hn : n < 18446744073709551616) (w : World) : Calls Tryz.prog 98 #[.int .u64 (n : Int)] w (NPost w n) := by
  go_enter Tryz.func98, Tryz.ntmps98
  go_wp2_with fail
  have hO := Own.new w [n % 4294967296, n / 4294967296]
  have hS := hO.sl (c := 2) (by simp) (by decide)
  have hD : Dg [n % 4294967296, n / 4294967296] := Dg.cons.2 ⟨Nat.mod_lt _ (by decide), Dg.cons.2 ⟨by rw [B_eq]; omega, Dg.nil⟩⟩
  have hV : val [n % 4294967296, n / 4294967296] = n := by simp only [val, B_eq]; omega
  have hT := trim_at _ hD _ _ hS
  rw [hV] at hT
  refine Calls.mono hT ?_
  rintro e w' ⟨v, rfl, hv, rfl⟩
  clear hT hS hO hD hV
  go_wp2
  go_ret
  exact ⟨_, rfl, hv, by go_grown⟩
def QPost (w : World) (v : Value) (e : Ending) (w' : World) : Prop := e = .returned v ∧ ∃ k, w' = w.drewN k
set_option maxHeartbeats 4000000 in
theorem cmp_at (x y : Nat) (v u : Value) (w : World) (hx : N w v x) (hy : N w u y) : Calls Tryz.prog 76 #[v, u] w (QPost w (.int .i64 (cmpN x y))) := by
  obtain ⟨a, c, rfl, s1⟩ := hx.open_
  obtain ⟨a', c', rfl, s2⟩ := hy.open_
  obtain ⟨p1, p2⟩ := sl_caps s1
  obtain ⟨q1, q2⟩ := sl_caps s2
  have HX := Lib.hid (digs_dg x)
  have HY := Lib.hid (digs_dg y)
  clear hx hy
  by_cases hlen : (digs x).length = (digs y).length
  · have HE : Hid ((digs x).drop (digs x).length = (digs y).drop (digs x).length) := by
      have : (digs x).drop (digs x).length = (digs y).drop (digs x).length := by rw [List.drop_length, hlen, List.drop_length]
      exact this
    rw [← hlen] at s2 q1
    have HL := Lib.hid hlen
    have hb : (((digs x).length : Int) != ((digs x).length : Int)) = false := by simp
    rw [← hlen]
    clear hlen
    go_enter Tryz.func76, Tryz.ntmps76
    go_wp2
    go_loopw [5] (fun i wr => ∃ k m : Nat, k ≤ (digs x).length ∧ wr = w.drewN m ∧ i = .int .i64 ((k : Int) - 1) ∧ Hid ((digs x).drop k = (digs y).drop k)) (fun i _ => (intOf i + 1).toNat)
    case atStart => exact ⟨_, 0, Nat.le_refl _, rfl, rfl, HE⟩
    case round =>
      obtain ⟨k, m, hk, rfl, rfl, HK⟩ := hrel
      cases k with
      | zero =>
        go_wp2
        go_ret
        exact ⟨ret_int (cmpN_eq (digs_inj (by simpa using HK.out))).symm, _, rfl⟩
      | succ j =>
        have hj : j < (digs x).length := by omega
        have hj' : j < (digs y).length := by rw [← HL.out]; exact hj
        obtain ⟨b, o, rfl, e0⟩ := sl_addr s1 (wcs_get hj)
        obtain ⟨b', o', rfl, f0⟩ := sl_addr s2 (wcs_get hj')
        have HLT := Lib.hid (val_lt_of HX.out hj hj' HK.out)
        have HGT := Lib.hid (val_lt_of HY.out hj' hj HK.out.symm)
        have HEQ : Hid ((digs x)[j] = (digs y)[j] → (digs x).drop j = (digs y).drop j) := by
          have : (digs x)[j] = (digs y)[j] → (digs x).drop j = (digs y).drop j := fun h => by rw [List.drop_eq_getElem_cons hj, List.drop_eq_getElem_cons hj', h, HK.out]
          exact this
        rw [show (((j + 1 : Nat) : Int) - 1) = (j : Int) by omega]
        generalize (digs x)[j] = X at *
        generalize (digs y)[j] = Y at *
        rcases Nat.lt_trichotomy X Y with h | h | h
        · have HR := Lib.hid (HLT.out h)
          have hb2 : ((X : Int) != (Y : Int)) = true := by simp; omega
          clear HLT HGT HEQ
          go_wp2
          go_quiet (fail)
          go_wp2
          go_quiet (fail)
          go_wp2
          go_ret
          exact ⟨ret_int (cmpN_lt (by simpa [val_digs] using HR.out)).symm, _, by rw [World.drewN_drewN, World.drewN_drewN]⟩
        · subst h
          have HR := Lib.hid (HEQ.out rfl)
          have hb2 : ((X : Int) != (X : Int)) = false := by simp
          clear HLT HGT HEQ
          go_wp2
          go_quiet (fail)
          go_wp2
          go_roundw
          case rel => exact ⟨j, _, by omega, rfl, rfl, HR⟩
          case measure => simp [intOf]
        · have HR := Lib.hid (HGT.out h)
          have hb2 : ((X : Int) != (Y : Int)) = true := by simp; omega
          clear HLT HGT HEQ
          go_wp2
          go_quiet (fail)
          go_wp2
          go_quiet (fail)
          go_wp2
          go_ret
          exact ⟨ret_int (cmpN_gt (by simpa [val_digs] using HR.out)).symm, _, by rw [World.drewN_drewN, World.drewN_drewN]⟩
  · have HL : Hid (∀ b, decide ((digs x).length < (digs y).length) = b → cmpN x y = if b then -1 else 1) := by
      have : ∀ b, decide ((digs x).length < (digs y).length) = b → cmpN x y = if b then -1 else 1 := fun b hb => by
        subst hb
        by_cases h : (digs x).length < (digs y).length
        · rw [cmpN_lt (lt_of_wlen h)]; simp [h]
        · rw [cmpN_gt (lt_of_wlen (show wlen y < wlen x by unfold wlen; omega))]; simp [h]
      exact this
    have hb : (((digs x).length : Int) != ((digs y).length : Int)) = true := by simp; omega
    by_cases h : (digs x).length < (digs y).length
    · have HR := Lib.hid (HL.out true (decide_eq_true h))
      clear hlen
      go_enter Tryz.func76, Tryz.ntmps76
      go_wp2
      go_ret
      exact ⟨ret_int HR.out.symm, 0, rfl⟩
    · have HR := Lib.hid (HL.out false (decide_eq_false h))
      clear hlen
      go_enter Tryz.func76, Tryz.ntmps76
      go_wp2
      go_ret
      exact ⟨ret_int HR.out.symm, 0, rfl⟩
end Nm
end Go.Proofs.YtemenlcigengeaaGreatDoor
namespace Go.Proofs.YtemenlcigengeaaGreatDoor
open Go.RowKit
namespace Nm
/-- a step of the difference -/
theorem sub_step {P V A C br br' X Y z : Nat} (h : V + C = A + P * br) (hz : z + Y + br = X + B * br') : (V + P * z) + (C + P * Y) = (A + P * X) + P * B * br' := by
  have e : P * (z + Y + br) = P * (X + B * br') := by rw [hz]
  rw [Nat.mul_add, Nat.mul_add, Nat.mul_add, ← Nat.mul_assoc] at e
  omega
end Nm
end Go.Proofs.YtemenlcigengeaaGreatDoor
namespace Go.Proofs.YtemenlcigengeaaGreatDoor
open Go.RowKit
namespace Nm
theorem mul_step {Pi Pk V V' V0 cr X Y O vk z q : Nat} (hset : V' + Pi * Pk * O = V + Pi * Pk * z) (hinv : V + Pi * Pk * cr = V0 + Pi * (X * vk)) (hs : z + B * q = cr + (X * Y + O)) : V' + Pi * (Pk * B) * q = V0 + Pi * (X * (vk + Pk * Y)) := by
  have e : Pi * Pk * (z + B * q) = Pi * Pk * (cr + (X * Y + O)) := by rw [hs]
  rw [Nat.mul_add, Nat.mul_add, Nat.mul_add] at e
  have e1 : Pi * (Pk * B) * q = Pi * Pk * (B * q) := by ac_rfl
  have e2 : Pi * (X * (vk + Pk * Y)) = Pi * (X * vk) + Pi * Pk * (X * Y) := by
    rw [Nat.mul_add, Nat.mul_add]; congr 1; ac_rfl
  omega
theorem mul_le {X Y : Nat} (hX : X < 4294967296) (hY : Y < 4294967296) : (X : Int) * (Y : Int) ≤ 18446744065119617025 ∧ 0 ≤ (X : Int) * (Y : Int) := by
  have h : X * Y ≤ 4294967295 * 4294967295 := Nat.mul_le_mul (by omega) (by omega)
  have h2 : ((X * Y : Nat) : Int) = (X : Int) * (Y : Int) := Int.natCast_mul _ _
  omega
theorem val_take_set_in (l : List Nat) (k y T : Nat) (h : k < T) (hT : T ≤ l.length) : val ((l.set k y).take T) + B ^ k * l[k]'(by omega) = val (l.take T) + B ^ k * y := by
  have h1 : k < (l.take T).length := by rw [List.length_take]; omega
  have := val_set (l.take T) k y h1
  rw [List.take_set]
  simpa using this
set_option maxHeartbeats 8000000 in
theorem times_at (x y : Nat) (v u : Value) (w : World) (hx : N w v x) (hy : N w u y) (hxl : wlen x ≤ 1000000000) (hyl : wlen y ≤ 1000000000) : Calls Tryz.prog 73 #[v, u] w (NPost w (x * y)) := by
  obtain ⟨a, c, rfl, s1⟩ := hx.open_
  obtain ⟨a', c', rfl, s2⟩ := hy.open_
  obtain ⟨p1, p2⟩ := sl_caps s1
  obtain ⟨q1, q2⟩ := sl_caps s2
  have HX := Lib.hid (digs_dg x)
  have HY := Lib.hid (digs_dg y)
  unfold wlen at hxl hyl
  clear hx hy
  go_enter Tryz.func73, Tryz.ntmps73
  go_wp2_with (refine wpList_make_words rfl _ _ rfl ((digs x).length + (digs y).length) rfl rfl ?_ ?_ ?_; rotate_left 2; intro W hO hB hsz)
  case refine_1 => go_num
  case refine_2 => omega
  clear hsz
  have HZ : Hid (val ((List.replicate ((digs x).length + (digs y).length) 0).take (0 + (digs y).length)) = val ((digs x).take 0) * y) := by
    have : val ((List.replicate ((digs x).length + (digs y).length) 0).take (0 + (digs y).length)) = val ((digs x).take 0) * y := by rw [List.take_replicate, val_zeros]; simp [val]
    exact this
  go_loopw [19] (fun iv wr => ∃ (i : Nat) (out : List Nat), i ≤ (digs x).length ∧ iv = .int .i64 i ∧ Hid (out.length = (digs x).length + (digs y).length) ∧ Hid (Dg out) ∧ Hid (val (out.take (i + (digs y).length)) = val ((digs x).take i) * y) ∧ Own wr w.heap.size out ∧ Below w.heap.size w wr) (fun iv _ => (digs x).length - (intOf iv).toNat)
  case atStart => exact ⟨0, List.replicate ((digs x).length + (digs y).length) 0, by omega, rfl, by have := @List.length_replicate Nat ((digs x).length + (digs y).length) 0; exact this, Dg.zeros _, HZ, hO, hB⟩
  case round =>
    obtain ⟨i, out0, hi, rfl, HL, HDo, HV, hOk, hBk⟩ := hrel
    by_cases hlt : i < (digs x).length
    · obtain ⟨b, o, rfl, e0⟩ := sl_addr (s1.ext hBk) (wcs_get hlt)
      have hX := HX.out.get hlt
      have HV1 := Lib.hid (val_take_succ (digs x) i hlt)
      generalize (digs x)[i] = X at *
      rw [B_eq] at hX
      have HZ2 : Hid (val (out0.take (i + (digs y).length)) + B ^ i * B ^ 0 * 0 = val ((digs x).take i) * y + B ^ i * (X * val ((digs y).take 0))) := by
        have : val (out0.take (i + (digs y).length)) + B ^ i * B ^ 0 * 0 = val ((digs x).take i) * y + B ^ i * (X * val ((digs y).take 0)) := by rw [HV.out]; simp [val]
        exact this
      clear HV
      go_wp2
      go_loopw [8, 26] (fun cv kv wr => ∃ (k cr : Nat) (out : List Nat), k ≤ (digs y).length ∧ kv = .int .i64 k ∧ cv = .int .u64 cr ∧ cr < 4294967296 ∧ Hid (out.length = (digs x).length + (digs y).length) ∧ Hid (Dg out) ∧ Hid (val (out.take (i + (digs y).length)) + B ^ i * B ^ k * cr = val ((digs x).take i) * y + B ^ i * (X * val ((digs y).take k))) ∧ Own wr w.heap.size out ∧ Below w.heap.size w wr) (fun _ kv _ => (digs y).length - (intOf kv).toNat)
      case atStart => exact ⟨0, 0, out0, by omega, rfl, rfl, by omega, HL, HDo, HZ2, hOk, hBk⟩
      case round =>
        clear hOk hBk HL HDo HZ2 e0
        obtain ⟨k, cr, out, hk, rfl, rfl, hcr, HL, HDo, HV, hOk, hBk⟩ := hrel
        by_cases hlk : k < (digs y).length
        · obtain ⟨b', o', rfl, f0⟩ := sl_addr (s2.ext hBk) (wcs_get hlk)
          have hY := HY.out.get hlk
          have hko : i + k < out.length := by have := HL.out; omega
          have o0 := hOk.cell hko
          have o1 := hOk.frozen (i + k)
          have hOo := HDo.out.get hko
          have hV2 := val_take_succ (digs y) k hlk
          have hset := fun z => val_take_set_in out (i + k) z (i + (digs y).length) (by omega) (by have := HL.out; omega)
          generalize out[i + k] = O at *
          generalize (digs y)[k] = Y at *
          rw [B_eq] at hY hOo
          obtain ⟨hm1, hm2⟩ := mul_le hX hY
          have hm3 : ((X * Y : Nat) : Int) = (X : Int) * (Y : Int) := Int.natCast_mul _ _
          have HR : Hid (val ((out.set (i + k) ((cr + (X * Y + O)) % 4294967296)).take (i + (digs y).length)) + B ^ i * B ^ (k + 1) * ((cr + (X * Y + O)) / 4294967296) = val ((digs x).take i) * y + B ^ i * (X * val ((digs y).take (k + 1)))) := by
            have h1 := hset ((cr + (X * Y + O)) % 4294967296)
            rw [Nat.pow_add] at h1
            have h2 := mul_step (Y := Y) h1 HV.out (q := (cr + (X * Y + O)) / 4294967296) (by rw [B_eq]; exact Nat.mod_add_div _ _)
            rw [hV2, Nat.pow_succ]; exact h2
          have HM := Lib.hid hm3
          clear hset hV2 hm3
          go_wp2
          go_roundw
          case rel => exact ⟨k + 1, (cr + (X * Y + O)) / 4294967296, out.set (i + k) ((cr + (X * Y + O)) % 4294967296), by omega, by go_num, by rw [← HM.out]; go_num, by have := HM.out; omega, Hid.len_set HL _ _, Hid.dg_set HDo _ (Nat.mod_lt _ B_pos), HR, hOk.set' hko _ (by rw [← HM.out]; omega), hBk.setCell (Nat.le_refl _) _⟩
          case measure => simp [intOf]; omega
        · obtain rfl : k = (digs y).length := by omega
          have hko : i + (digs y).length < out.length := by have := HL.out; omega
          have o0 := hOk.cell hko
          have o1 := hOk.frozen (i + (digs y).length)
          have HR : Hid (val ((out.set (i + (digs y).length) cr).take (i + 1 + (digs y).length)) = val ((digs x).take (i + 1)) * y) := by
            have h1 := val_take_set out (i + (digs y).length) cr hko
            have h2 := HV.out
            rw [List.take_length, val_digs] at h2
            rw [Nat.add_right_comm, h1, Nat.pow_add, h2, HV1.out, Nat.add_mul, Nat.mul_assoc]; exact Lib.hid rfl
          go_wp2
          go_roundw
          case rel => exact ⟨i + 1, out.set (i + (digs y).length) cr, by omega, by go_num, Hid.len_set HL _ _, Hid.dg_set HDo _ (by rw [B_eq]; omega), HR, hOk.set' hko _ (by omega), hBk.setCell (Nat.le_refl _) _⟩
          case measure => simp [intOf]; omega
    · obtain rfl : i = (digs x).length := by omega
      have HF : Hid (val out0 = x * y) := by
        have h1 := HV.out
        rw [List.take_of_length_le (by rw [HL.out]; omega), List.take_length, val_digs] at h1
        exact h1
      clear HV
      go_wp2_with fail
      have hs := hOk.sl (c := (digs x).length + (digs y).length) (by rw [HL.out]; omega) (by unfold maxLen; omega)
      have hT := trim_at out0 HDo.out _ _ hs
      rw [HL.out, HF.out] at hT
      refine Calls.mono hT ?_
      rintro e w' ⟨v, rfl, hv, rfl⟩
      clear hT hs
      go_wp2
      go_ret
      exact ⟨_, rfl, hv, hBk⟩
end Nm
end Go.Proofs.YtemenlcigengeaaGreatDoor
namespace Go.Proofs.YtemenlcigengeaaGreatDoor
open Go.RowKit
namespace Nm
theorem or64 {r X : Nat} (hr : r < 4294967296) (hX : X < 4294967296) : bits BinOp.or IntKind.u64 ((r : Int) * 4294967296) (X : Int) = (r : Int) * 4294967296 + (X : Int) := by
  have h := u64_or_nat (4294967296 * r) X (by omega) (by omega)
  have h2 := Nat.two_pow_add_eq_or_of_lt (i := 32) (b := X) (by simpa using hX) r
  rw [show (2 : Nat) ^ 32 = 4294967296 by decide] at h2
  rw [← h2] at h
  rw [show ((r : Int) * 4294967296) = ((4294967296 * r : Nat) : Int) by omega, h]; omega
/-- a number of two words divided by a word -/
theorem div_word {r X n : Nat} (hr : r < n) (hX : X < 4294967296) : ∃ q r', r * 4294967296 + X = q * n + r' ∧ r' < n ∧ q < 4294967296 ∧
    ((r : Int) * 4294967296 + (X : Int)).tdiv (n : Int) = (q : Int) ∧ ((r : Int) * 4294967296 + (X : Int)).tmod (n : Int) = (r' : Int) ∧ ((r : Int) * 4294967296 + (X : Int)) / (n : Int) = (q : Int) ∧ ((r : Int) * 4294967296 + (X : Int)) % (n : Int) = (r' : Int) := by
  have hc : ((r : Int) * 4294967296 + (X : Int)) = ((r * 4294967296 + X : Nat) : Int) := by omega
  have hq : (r * 4294967296 + X) / n < 4294967296 := by
    rw [Nat.div_lt_iff_lt_mul (by omega)]
    have : (r + 1) * 4294967296 ≤ n * 4294967296 := Nat.mul_le_mul_right _ hr
    omega
  refine ⟨(r * 4294967296 + X) / n, (r * 4294967296 + X) % n, (Nat.div_add_mod' _ _).symm, Nat.mod_lt _ (by omega), hq, ?_, ?_, ?_, ?_⟩
  · rw [hc]; rfl
  · rw [hc]; rfl
  · rw [hc]; rfl
  · rw [hc]; rfl
theorem small_step {D V n r X q r' : Nat} (hV : D = V * n + r) (h : r * 4294967296 + X = q * n + r') : X + B * D = (q + B * V) * n + r' := by
  subst hV
  rw [B_eq, Nat.add_mul, Nat.mul_add, Nat.mul_assoc]
  omega
/-- a quotient, and a word -/
def SmallPost (w : World) (q r : Nat) (e : Ending) (w' : World) : Prop := ∃ v, e = .returned (.tuple #[v, .int .u32 (r : Int)]) ∧ N w' v q ∧ Below w.heap.size w w'
set_option maxHeartbeats 8000000 in
theorem small_at (x n : Nat) (v : Value) (w : World) (hx : N w v x) (hxl : wlen x ≤ 1000000000) (hn : 0 < n) (hn2 : n < 4294967296) : Calls Tryz.prog 105 #[v, .int .u32 (n : Int)] w (SmallPost w (x / n) (x % n)) := by
  obtain ⟨a, c, rfl, s1⟩ := hx.open_
  obtain ⟨p1, p2⟩ := sl_caps s1
  have HX := Lib.hid (digs_dg x)
  unfold wlen at hxl
  clear hx
  go_enter Tryz.func105, Tryz.ntmps105
  go_wp2_with (refine wpList_make_words rfl _ _ rfl (digs x).length rfl rfl ?_ ?_ ?_; rotate_left 2; intro W hO hB hsz)
  case refine_1 => go_num
  case refine_2 => omega
  clear hsz
  have HZ : Hid (val ((digs x).drop (digs x).length) = val ((List.replicate (digs x).length 0).drop (digs x).length) * n + 0) := by
    have : val ((digs x).drop (digs x).length) = val ((List.replicate (digs x).length 0).drop (digs x).length) * n + 0 := by simp [val]
    exact this
  go_loopw [7, 8] (fun rv iv wr => ∃ (k r : Nat) (out : List Nat), k ≤ (digs x).length ∧ iv = .int .i64 ((k : Int) - 1) ∧ rv = .int .u64 r ∧ r < n ∧ Hid (out.length = (digs x).length) ∧ Hid (Dg out) ∧ Hid (val ((digs x).drop k) = val (out.drop k) * n + r) ∧ Own wr w.heap.size out ∧ Below w.heap.size w wr) (fun _ iv _ => (intOf iv + 1).toNat)
  case atStart => exact ⟨(digs x).length, 0, List.replicate (digs x).length 0, Nat.le_refl _, rfl, rfl, hn, by have := @List.length_replicate Nat (digs x).length 0; exact this, Dg.zeros _, HZ, hO, hB⟩
  case round =>
    obtain ⟨k, r, out, hk, rfl, rfl, hr, HL, HDo, HV, hOk, hBk⟩ := hrel
    cases k with
    | zero =>
      have HF : Hid (val out = x / n ∧ r = x % n) := by
        have h1 := HV.out
        rw [List.drop_zero, List.drop_zero, val_digs] at h1
        have : val out = x / n ∧ r = x % n := by
          constructor
          · rw [h1, Nat.add_comm, Nat.add_mul_div_right _ _ hn, Nat.div_eq_of_lt hr, Nat.zero_add]
          · rw [h1, Nat.add_comm, Nat.add_mul_mod_self_right, Nat.mod_eq_of_lt hr]
        exact this
      clear HV
      go_wp2_with fail
      have hs := hOk.sl (c := (digs x).length) (by rw [HL.out]; omega) (by unfold maxLen; omega)
      have hT := trim_at out HDo.out _ _ hs
      rw [HL.out] at hT
      refine Calls.mono hT ?_
      rintro e w' ⟨v, rfl, hv, rfl⟩
      clear hT hs
      go_wp2
      go_ret2
      rw [← HF.out.1, ← HF.out.2]
      exact ⟨_, rfl, hv, hBk⟩
    | succ j =>
      have hlt : j < (digs x).length := by omega
      obtain ⟨b, o, rfl, e0⟩ := sl_addr (s1.ext hBk) (wcs_get hlt)
      have hX := HX.out.get hlt
      have hko : j < out.length := by have := HL.out; omega
      have o0 := hOk.cell hko
      have o1 := hOk.frozen j
      have HV1 := Lib.hid (val_drop (digs x) j hlt)
      rw [show (((j + 1 : Nat) : Int) - 1) = (j : Int) by omega]
      generalize (digs x)[j] = X at *
      rw [B_eq] at hX
      obtain ⟨q, r', hdv, hr', hq, t1, t2, t3, t4⟩ := div_word hr hX
      have HR : Hid (val ((digs x).drop j) = val ((out.set j q).drop j) * n + r') := by
        have : val ((digs x).drop j) = val ((out.set j q).drop j) * n + r' := by
          rw [HV1.out, drop_set out j q hko]
          exact small_step HV.out hdv
        exact this
      have hor := or64 (r := r) (X := X) (by omega) hX
      clear HV HV1 hdv
      go_wp2
      go_roundw
      case rel => exact ⟨j, r', out.set j q, by omega, rfl, rfl, hr', Hid.len_set HL _ _, Hid.dg_set HDo _ hq, HR, hOk.set' hko _ (by omega), hBk.setCell (Nat.le_refl _) _⟩
      case measure => simp [intOf]
end Nm
end Go.Proofs.YtemenlcigengeaaGreatDoor
