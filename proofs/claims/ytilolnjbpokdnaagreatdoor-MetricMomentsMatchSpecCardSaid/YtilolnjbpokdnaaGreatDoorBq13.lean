/- trim, order, small of the reference's natural numbers (digits to the base 10^9); append of a digit. plus, minus of the reference's natural numbers. -/
import Derived.Test.YtilolnjbpokdnaaGreatDoorBq12
import Derived.Test.YtilolnjbpokdnaaGreatDoorBq00
import Derived.Deep.QuietTactic
import Derived.BigQuiet
namespace Go.Proofs.YtilolnjbpokdnaaGreatDoor
open Go.RowKit
namespace Nt
/-- a row of digits of the call's own -/
def Row (w : World) (base : Nat) (v : Value) (l : List Nat) : Prop := w.ownsRow base 3 1 v l.length (wcs l)
theorem Row.nil (w : World) (base : Nat) : Row w base (.slice none 0 0) [] := ⟨by simp [wcs], .inl ⟨rfl, rfl⟩⟩
theorem Row.ext {w w' : World} {base : Nat} {v : Value} {l : List Nat} (h : Row w base v l) (hb : Below w.heap.size w w') : Row w' base v l := ownsRow_ext h hb
theorem Row.sl {w : World} {base : Nat} {v : Value} {l : List Nat} (h : Row w base v l) : Sl w v l.length (wcs l) := Sl.ofOwn h
theorem Row.own {w : World} {base : Nat} {v : Value} {l : List Nat} (h : Row w base v l) (hn : 0 < l.length) : ∃ g cap, v = .slice (some ⟨g, 0, none⟩) l.length cap ∧ base ≤ g ∧ l.length ≤ cap ∧ cap ≤ maxLen ∧ Own w g l := Own.ofRow h hn
/-- append(out, y): the digit lies in a new block -/
theorem wpList_append_wd {w : World} {ops : Array Oper} {rest : List Oper} {o : Oper} {a : Act} {Q : Exit → Act → World → Prop} (hgd : o.guard = none) (s x : Operand)
    (ho : o.op = .call { callee := .builtin .append, args := #[s, x], argTypes := #[168, 168] })
    (base : Nat) {v : Value} {l : List Nat} (hs : a.eval s = v) (hown : Row w base v l) {z : Int} (y : Nat) (hx : a.eval x = .slice (some ⟨w.heap.size, 0, none⟩) 1 1) (hz : z = (y : Int))
    (hn : l.length ≤ 10000000000) (hbase : base ≤ w.heap.size)
    (h : ∀ v' w', Row w' base v' (l ++ [y]) → Below base w w' → wpList Tryz.prog ops Q rest (a.put o.dst v') w') : wpList Tryz.prog ops Q (o :: rest) a (w.alloc (.cells #[.int .i64 z] 3)) := by
  subst hz
  refine wpList_append_sl hgd s x _ ho base 3 Tryz.underlying168 i64_info rfl (by decide) hs (ownsRow_ext hown (ext_alloc _ _)) hx (Sl.new w #[.int .i64 (y : Int)] _ 1 1 (by omega) (by decide)) rfl (by intro u hu; simp at hu; subst hu; rfl) (by unfold maxLen; omega) (by omega) (by simp; omega) (fun v' w' h1 h2 _ => ?_)
  refine h v' w' ?_ ?_
  · unfold Row
    rw [List.length_append, List.length_singleton]
    have e : wcs (l ++ [y]) = wcs l ++ [.int .i64 (y : Int)] := by simp [wcs, wc]
    rw [e]; exact h1
  · exact ((ext_alloc w _).mono hbase).trans (Below.grown (Below.refl base _) h2 (by simp; omega) (fun k hk => (World.ownsRow.lt hown k hk).1))
set_option maxHeartbeats 2000000 in
theorem trim_at (l : List Nat) (hd : Dg l) (v : Value) (w : World) (hs : Sl w v l.length (wcs l)) : Calls Tryz.prog 168 #[v] w (TrimPost w (val l)) := by
  obtain ⟨a, c, rfl, hs0⟩ := id hs
  obtain ⟨hc1, hc2⟩ := sl_caps hs
  have HD := Lib.hid hd
  clear hd hs0
  go_enter Tryz.func168, Tryz.ntmps168
  go_wp2
  go_loop [3] (fun t => ∃ k : Nat, k ≤ l.length ∧ t = .int .i64 k ∧ Hid (val (l.take k) = val l)) (fun t => (intOf t).toNat)
  case atStart => exact ⟨l.length, by omega, rfl, by have : val (l.take l.length) = val l := by rw [List.take_length]
                                                     exact this⟩
  case round =>
    obtain ⟨k, hk, rfl, HV⟩ := hrel
    cases k with
    | zero =>
      go_wp2
      go_ret
      refine ⟨_, rfl, ?_, rfl⟩
      have e := digs_take HD.out (k := 0) (by omega) HV.out (fun j hj h => by omega)
      have hs2 := sl_take hs (k := 0) (by omega)
      unfold N wlen; rw [e]; simpa [wcs] using hs2
    | succ j =>
      have hj : j < l.length := by omega
      obtain ⟨b, o, rfl, e0⟩ := sl_addr hs (wcs_get hj)
      by_cases hz : l[j] = 0
      · have HV2 := Lib.hid (val_take_zero hj HV.out hz)
        rw [hz] at e0
        clear hz
        go_wp2
        go_round
        case rel => exact ⟨j, by omega, by go_num, HV2⟩
        case measure => simp [intOf]
      · have hne : ((l[j] : Int) == 0) = false := by simp; omega
        have HZ := Lib.hid hz
        clear hz
        go_wp2
        go_ret
        refine ⟨_, rfl, ?_, rfl⟩
        have e := digs_take HD.out (k := j + 1) (by omega) HV.out (fun i hi h => by obtain rfl : i = j := (by omega); exact HZ.out)
        have hs2 := sl_take hs (k := j + 1) (by omega)
        unfold N wlen; rw [e, List.length_take, Nat.min_eq_left (by omega), ← wcs_take]; exact hs2
theorem digs_succ {m : Nat} (h : 0 < m) (l : List Nat) : l ++ digs m = (l ++ [m % B]) ++ digs (m / B) := by rw [digs_pos h]; simp
set_option maxHeartbeats 2000000 in
theorem small_at (n : Nat) (hn : n < 9223372036854775808) (w : World) : Calls Tryz.prog 165 #[.int .i64 (n : Int)] w (NPost w n) := by
  go_enter Tryz.func165, Tryz.ntmps165
  go_wp2
  go_loopw [0, 3] (fun mv ov wr => ∃ (m : Nat) (l : List Nat), mv = .int .i64 m ∧ m < 9223372036854775808 ∧ Hid (digs n = l ++ digs m) ∧ Row wr w.heap.size ov l ∧ Below w.heap.size w wr) (fun mv _ _ => (intOf mv).toNat)
  case atStart => exact ⟨n, [], rfl, hn, by have : digs n = [] ++ digs n := rfl
                                            exact this, Row.nil _ _, Below.refl _ _⟩
  case round =>
    obtain ⟨m, l, rfl, hm, HD, hr, hb⟩ := hrel
    have hle := hb.size
    have hll : l.length ≤ 10000000000 := by
      have h1 : (digs n).length ≤ 3 := wlen_le (Nat.lt_of_lt_of_le hn (by decide))
      rw [HD.out, List.length_append] at h1; omega
    by_cases h0 : 0 < m
    · have HD2 : Hid (digs n = (l ++ [m % 1000000000]) ++ digs (m / 1000000000)) := by
        have : digs n = (l ++ [m % 1000000000]) ++ digs (m / 1000000000) := by rw [HD.out]; exact digs_succ h0 l
        exact this
      go_wp2_with (at_builtin; refine wpList_append_wd rfl _ _ rfl w.heap.size rfl hr (m % 1000000000) rfl (by omega) hll hle ?_; intro v' w' hr' hb')
      go_roundw
      case rel => exact ⟨m / 1000000000, _, by go_num, by omega, HD2, hr', hb.trans hb'⟩
      case measure => simp [intOf]; omega
    · obtain rfl : m = 0 := by omega
      go_wp2
      go_ret
      refine ⟨_, rfl, ?_, hb⟩
      have e := HD.out
      rw [digs_zero, List.append_nil] at e
      have h1 := hr.sl
      rw [← e] at h1
      exact h1
def QPost (w : World) (v : Value) (e : Ending) (w' : World) : Prop := e = .returned v ∧ ∃ k, w' = w.drewN k
set_option maxHeartbeats 4000000 in
theorem order_at (x y : Nat) (v u : Value) (w : World) (hx : N w v x) (hy : N w u y) : Calls Tryz.prog 146 #[v, u] w (QPost w (.int .i64 (cmpN x y))) := by
  obtain ⟨a, c, rfl, s1⟩ := hx.open_
  obtain ⟨a', c', rfl, s2⟩ := hy.open_
  obtain ⟨p1, p2⟩ := sl_caps s1
  obtain ⟨q1, q2⟩ := sl_caps s2
  have HX := Lib.hid (digs_dg x)
  have HY := Lib.hid (digs_dg y)
  clear hx hy
  by_cases hlen : (digs x).length = (digs y).length
  · have HE : Hid ((digs x).drop (digs x).length = (digs y).drop (digs x).length) := by
      have : (digs x).drop (digs x).length = (digs y).drop (digs x).length := by rw [List.drop_length, hlen, List.drop_length]
      exact this
    rw [← hlen] at s2 q1
    have HL := Lib.hid hlen
    have hb : (((digs x).length : Int) != ((digs x).length : Int)) = false := by simp
    rw [← hlen]
    clear hlen
    go_enter Tryz.func146, Tryz.ntmps146
    go_wp2
    go_loopw [5] (fun i wr => ∃ k m : Nat, k ≤ (digs x).length ∧ wr = w.drewN m ∧ i = .int .i64 ((k : Int) - 1) ∧ Hid ((digs x).drop k = (digs y).drop k)) (fun i _ => (intOf i + 1).toNat)
    case atStart => exact ⟨_, 0, Nat.le_refl _, rfl, rfl, HE⟩
    case round =>
      obtain ⟨k, m, hk, rfl, rfl, HK⟩ := hrel
      cases k with
      | zero =>
        go_wp2
        go_ret
        exact ⟨ret_int (cmpN_eq (digs_inj (by simpa using HK.out))).symm, _, rfl⟩
      | succ j =>
        have hj : j < (digs x).length := by omega
        have hj' : j < (digs y).length := by rw [← HL.out]; exact hj
        obtain ⟨b, o, rfl, e0⟩ := sl_addr s1 (wcs_get hj)
        obtain ⟨b', o', rfl, f0⟩ := sl_addr s2 (wcs_get hj')
        have HLT := Lib.hid (val_lt_of HX.out hj hj' HK.out)
        have HGT := Lib.hid (val_lt_of HY.out hj' hj HK.out.symm)
        have HEQ : Hid ((digs x)[j] = (digs y)[j] → (digs x).drop j = (digs y).drop j) := by
          have : (digs x)[j] = (digs y)[j] → (digs x).drop j = (digs y).drop j := fun h => by rw [List.drop_eq_getElem_cons hj, List.drop_eq_getElem_cons hj', h, HK.out]
          exact this
        rw [show (((j + 1 : Nat) : Int) - 1) = (j : Int) by omega]
        generalize (digs x)[j] = X at *
        generalize (digs y)[j] = Y at *
        rcases Nat.lt_trichotomy X Y with h | h | h
        · have HR := Lib.hid (HLT.out h)
          have hb2 : ((X : Int) != (Y : Int)) = true := by simp; omega
          clear HLT HGT HEQ
          go_wp2
          go_quiet (fail)
          go_wp2
          go_quiet (fail)
          go_wp2
          go_ret
          exact ⟨ret_int (cmpN_lt (by simpa [val_digs] using HR.out)).symm, _, by rw [World.drewN_drewN, World.drewN_drewN]⟩
        · subst h
          have HR := Lib.hid (HEQ.out rfl)
          have hb2 : ((X : Int) != (X : Int)) = false := by simp
          clear HLT HGT HEQ
          go_wp2
          go_quiet (fail)
          go_wp2
          go_roundw
          case rel => exact ⟨j, _, by omega, rfl, rfl, HR⟩
          case measure => simp [intOf]
        · have HR := Lib.hid (HGT.out h)
          have hb2 : ((X : Int) != (Y : Int)) = true := by simp; omega
          clear HLT HGT HEQ
          go_wp2
          go_quiet (fail)
          go_wp2
          go_quiet (fail)
          go_wp2
          go_ret
          exact ⟨ret_int (cmpN_gt (by simpa [val_digs] using HR.out)).symm, _, by rw [World.drewN_drewN, World.drewN_drewN]⟩
  · have HL : Hid (∀ b, decide ((digs x).length < (digs y).length) = b → cmpN x y = if b then -1 else 1) := by
      have : ∀ b, decide ((digs x).length < (digs y).length) = b → cmpN x y = if b then -1 else 1 := fun b hb => by
        subst hb
        by_cases h : (digs x).length < (digs y).length
        · rw [cmpN_lt (lt_of_wlen h)]; simp [h]
        · rw [cmpN_gt (lt_of_wlen (show wlen y < wlen x by unfold wlen; omega))]; simp [h]
      exact this
    have hb : (((digs x).length : Int) != ((digs y).length : Int)) = true := by simp; omega
    by_cases h : (digs x).length < (digs y).length
    · have HR := Lib.hid (HL.out true (decide_eq_true h))
      clear hlen
      go_enter Tryz.func146, Tryz.ntmps146
      go_wp2
      go_ret
      exact ⟨ret_int HR.out.symm, 0, rfl⟩
    · have HR := Lib.hid (HL.out false (decide_eq_false h))
      clear hlen
      go_enter Tryz.func146, Tryz.ntmps146
      go_wp2
      go_ret
      exact ⟨ret_int HR.out.symm, 0, rfl⟩
end Nt
end Go.Proofs.YtilolnjbpokdnaaGreatDoor
namespace Go.Proofs.YtilolnjbpokdnaaGreatDoor
open Go.RowKit
namespace Nt
set_option maxRecDepth 100000 in
set_option maxHeartbeats 4000000 in
theorem plus_at (x y : Nat) (v u : Value) (w : World) (hx : N w v x) (hy : N w u y) (hxl : wlen x ≤ 1000000000) (hyl : wlen y ≤ 1000000000) : Calls Tryz.prog 147 #[v, u] w (NPost w (x + y)) := by
  obtain ⟨a, c, rfl, s1⟩ := hx.open_
  obtain ⟨a', c', rfl, s2⟩ := hy.open_
  obtain ⟨p1, p2⟩ := sl_caps s1
  obtain ⟨q1, q2⟩ := sl_caps s2
  have HX := Lib.hid (digs_dg x)
  have HY := Lib.hid (digs_dg y)
  unfold wlen at hxl hyl
  have HZ0 : Hid (([] : List Nat).length = 0) := by
    have : ([] : List Nat).length = 0 := rfl
    exact this
  have HZ : Hid (val [] + B ^ 0 * 0 = val ((digs x).take 0) + val ((digs y).take 0)) := by
    have : val [] + B ^ 0 * 0 = val ((digs x).take 0) + val ((digs y).take 0) := by simp [val]
    exact this
  clear hx hy
  go_enter Tryz.func147, Tryz.ntmps147
  go_wp2
  go_loopw [5, 6, 7] (fun ov cv iv wr => ∃ (k cr : Nat) (l : List Nat), iv = .int .i64 k ∧ cv = .int .i64 cr ∧ cr ≤ 1 ∧ (k ≤ (digs x).length ∨ k ≤ (digs y).length ∨ (k ≤ (digs x).length + (digs y).length + 1 ∧ cr = 0)) ∧ Hid (l.length = k) ∧ Hid (Dg l) ∧ Hid (val l + B ^ k * cr = val ((digs x).take k) + val ((digs y).take k)) ∧ Row wr w.heap.size ov l ∧ Below w.heap.size w wr) (fun _ cv iv _ => (digs x).length + (digs y).length + 3 - (intOf iv).toNat)
  case atStart => exact ⟨0, 0, [], rfl, rfl, by omega, .inl (Nat.zero_le _), HZ0, Dg.nil, HZ, Row.nil _ _, Below.refl _ _⟩
  case round =>
    obtain ⟨k, cr, l, rfl, rfl, hcr, hk, HL, HDg, HV, hr, hb⟩ := hrel
    have hle := hb.size
    have hll : l.length ≤ 10000000000 := by rw [HL.out]; omega
    have hV1 := val_take_wd (digs x) k
    have hV2 := val_take_wd (digs y) k
    by_cases hlx : k < (digs x).length
    · obtain ⟨b, o, rfl, e0⟩ := sl_addr (s1.ext hb) (wcs_get hlx)
      have hX := HX.out.get hlx
      rw [wd_get hlx] at hV1
      generalize (digs x)[k] = X at *
      rw [B_eq] at hX
      by_cases hly : k < (digs y).length
      · obtain ⟨b', o', rfl, f0⟩ := sl_addr (s2.ext hb) (wcs_get hly)
        have hY := HY.out.get hly
        rw [wd_get hly] at hV2
        generalize (digs y)[k] = Y at *
        rw [B_eq] at hY
        have HR : Hid (val (l ++ [(cr + X + Y) % 1000000000]) + B ^ (k + 1) * ((cr + X + Y) / 1000000000) = val ((digs x).take (k + 1)) + val ((digs y).take (k + 1))) := by
          have h1 := add_step (x := X) (y := Y) HV.out
          rw [← hV1, ← hV2, B_eq] at h1
          have : val (l ++ [(cr + X + Y) % 1000000000]) + B ^ (k + 1) * ((cr + X + Y) / 1000000000) = val ((digs x).take (k + 1)) + val ((digs y).take (k + 1)) := by
            rw [val_append, HL.out, Nat.pow_succ, ← h1]
            simp [val, B_eq]
          exact this
        have HL2 : Hid ((l ++ [(cr + X + Y) % 1000000000]).length = k + 1) := by
          have : (l ++ [(cr + X + Y) % 1000000000]).length = k + 1 := by rw [List.length_append, HL.out]; rfl
          exact this
        have HD2 : Hid (Dg (l ++ [(cr + X + Y) % 1000000000])) := by
          have : Dg (l ++ [(cr + X + Y) % 1000000000]) := HDg.out.append (Dg.cons.2 ⟨by rw [B_eq]; omega, Dg.nil⟩)
          exact this
        clear hV1 hV2
        go_wp2_with (at_builtin; refine wpList_append_wd rfl _ _ rfl w.heap.size rfl hr ((cr + X + Y) % 1000000000) rfl (by omega) hll hle ?_; intro v' w' hr' hb')
        all_goals
          go_roundw
          case rel => exact ⟨k + 1, (cr + X + Y) / 1000000000, _, by go_num, by go_num, by omega, by omega, HL2, HD2, HR, hr', hb.trans hb'⟩
          case measure => simp [intOf] <;> omega
      · rw [wd_past (by omega)] at hV2
        have HR : Hid (val (l ++ [(cr + X) % 1000000000]) + B ^ (k + 1) * ((cr + X) / 1000000000) = val ((digs x).take (k + 1)) + val ((digs y).take (k + 1))) := by
          have h1 := add_step (x := X) (y := 0) HV.out
          rw [← hV1, ← hV2, Nat.add_zero, B_eq] at h1
          have : val (l ++ [(cr + X) % 1000000000]) + B ^ (k + 1) * ((cr + X) / 1000000000) = val ((digs x).take (k + 1)) + val ((digs y).take (k + 1)) := by
            rw [val_append, HL.out, Nat.pow_succ, ← h1]
            simp [val, B_eq]
          exact this
        have HL2 : Hid ((l ++ [(cr + X) % 1000000000]).length = k + 1) := by
          have : (l ++ [(cr + X) % 1000000000]).length = k + 1 := by rw [List.length_append, HL.out]; rfl
          exact this
        have HD2 : Hid (Dg (l ++ [(cr + X) % 1000000000])) := by
          have : Dg (l ++ [(cr + X) % 1000000000]) := HDg.out.append (Dg.cons.2 ⟨by rw [B_eq]; omega, Dg.nil⟩)
          exact this
        clear hV1 hV2
        go_wp2_with (at_builtin; refine wpList_append_wd rfl _ _ rfl w.heap.size rfl hr ((cr + X) % 1000000000) rfl (by omega) hll hle ?_; intro v' w' hr' hb')
        all_goals
          go_roundw
          case rel => exact ⟨k + 1, (cr + X) / 1000000000, _, by go_num, by go_num, by omega, by omega, HL2, HD2, HR, hr', hb.trans hb'⟩
          case measure => simp [intOf] <;> omega
    · rw [wd_past (by omega)] at hV1
      by_cases hly : k < (digs y).length
      · obtain ⟨b', o', rfl, f0⟩ := sl_addr (s2.ext hb) (wcs_get hly)
        have hY := HY.out.get hly
        rw [wd_get hly] at hV2
        generalize (digs y)[k] = Y at *
        rw [B_eq] at hY
        have HR : Hid (val (l ++ [(cr + Y) % 1000000000]) + B ^ (k + 1) * ((cr + Y) / 1000000000) = val ((digs x).take (k + 1)) + val ((digs y).take (k + 1))) := by
          have h1 := add_step (x := 0) (y := Y) HV.out
          rw [← hV1, ← hV2, Nat.add_zero, B_eq] at h1
          have : val (l ++ [(cr + Y) % 1000000000]) + B ^ (k + 1) * ((cr + Y) / 1000000000) = val ((digs x).take (k + 1)) + val ((digs y).take (k + 1)) := by
            rw [val_append, HL.out, Nat.pow_succ, ← h1]
            simp [val, B_eq]
          exact this
        have HL2 : Hid ((l ++ [(cr + Y) % 1000000000]).length = k + 1) := by
          have : (l ++ [(cr + Y) % 1000000000]).length = k + 1 := by rw [List.length_append, HL.out]; rfl
          exact this
        have HD2 : Hid (Dg (l ++ [(cr + Y) % 1000000000])) := by
          have : Dg (l ++ [(cr + Y) % 1000000000]) := HDg.out.append (Dg.cons.2 ⟨by rw [B_eq]; omega, Dg.nil⟩)
          exact this
        clear hV1 hV2
        go_wp2_with (at_builtin; refine wpList_append_wd rfl _ _ rfl w.heap.size rfl hr ((cr + Y) % 1000000000) rfl (by omega) hll hle ?_; intro v' w' hr' hb')
        all_goals
          go_roundw
          case rel => exact ⟨k + 1, (cr + Y) / 1000000000, _, by go_num, by go_num, by omega, by omega, HL2, HD2, HR, hr', hb.trans hb'⟩
          case measure => simp [intOf] <;> omega
      · rw [wd_past (by omega)] at hV2
        by_cases hc0 : 0 < cr
        · obtain rfl : cr = 1 := by omega
          have HR : Hid (val (l ++ [1]) + B ^ (k + 1) * (0) = val ((digs x).take (k + 1)) + val ((digs y).take (k + 1))) := by
            have h1 := add_step (x := 0) (y := 0) HV.out
            rw [← hV1, ← hV2, Nat.add_zero, Nat.add_zero, B_eq] at h1
            have : val (l ++ [1]) + B ^ (k + 1) * (0) = val ((digs x).take (k + 1)) + val ((digs y).take (k + 1)) := by
              rw [val_append, HL.out, Nat.pow_succ, ← h1]
              simp [val, B_eq]
            exact this
          have HL2 : Hid ((l ++ [1]).length = k + 1) := by
            have : (l ++ [1]).length = k + 1 := by rw [List.length_append, HL.out]; rfl
            exact this
          have HD2 : Hid (Dg (l ++ [1])) := by
            have : Dg (l ++ [1]) := HDg.out.append (Dg.cons.2 ⟨by rw [B_eq]; omega, Dg.nil⟩)
            exact this
          clear hV1 hV2
          go_wp2_with (at_builtin; refine wpList_append_wd rfl _ _ rfl w.heap.size rfl hr (1) rfl (by omega) hll hle ?_; intro v' w' hr' hb')
          all_goals
            go_roundw
            case rel => exact ⟨k + 1, 0, _, by go_num, by go_num, by omega, by omega, HL2, HD2, HR, hr', hb.trans hb'⟩
            case measure => simp [intOf] <;> omega
        · obtain rfl : cr = 0 := by omega
          have HF : Hid (val l = x + y) := by
            have h1 := HV.out
            rw [List.take_of_length_le (by omega), List.take_of_length_le (by omega), val_digs, val_digs, Nat.mul_zero, Nat.add_zero] at h1
            exact h1
          clear hV1 hV2 HV
          have hs := hr.sl
          have hT := trim_at l HDg.out _ _ hs
          rw [HF.out] at hT
          go_wp2_with fail
          all_goals
            refine Calls.mono hT ?_
            rintro e w' ⟨v, rfl, hv, rfl⟩
            go_wp2
            go_ret
            exact ⟨_, rfl, hv, hb⟩
theorem minus_step {P V A C X Y br n b2 : Nat} (h : V + C = A + P * br) (e : n + Y + br = X + B * b2) : (V + P * n) + (C + P * Y) = (A + P * X) + P * B * b2 := by
  have h2 : P * (n + Y + br) = P * (X + B * b2) := by rw [e]
  rw [Nat.mul_add, Nat.mul_add, Nat.mul_add, ← Nat.mul_assoc] at h2
  omega
set_option maxRecDepth 100000 in
set_option maxHeartbeats 4000000 in
theorem minus_at (x y : Nat) (v u : Value) (w : World) (hx : N w v x) (hy : N w u y) (hyx : y ≤ x) (hxl : wlen x ≤ 1000000000) : Calls Tryz.prog 148 #[v, u] w (NPost w (x - y)) := by
  have hly0 : (digs y).length ≤ (digs x).length := wlen_mono hyx
  have HYX := Lib.hid hyx
  obtain ⟨a, c, rfl, s1⟩ := hx.open_
  obtain ⟨a', c', rfl, s2⟩ := hy.open_
  obtain ⟨p1, p2⟩ := sl_caps s1
  obtain ⟨q1, q2⟩ := sl_caps s2
  have HX := Lib.hid (digs_dg x)
  have HY := Lib.hid (digs_dg y)
  unfold wlen at hxl
  have HZ0 : Hid (([] : List Nat).length = 0) := by
    have : ([] : List Nat).length = 0 := rfl
    exact this
  have HZ : Hid (val [] + val ((digs y).take 0) = val ((digs x).take 0) + B ^ 0 * 0) := by
    have : val [] + val ((digs y).take 0) = val ((digs x).take 0) + B ^ 0 * 0 := by simp [val]
    exact this
  clear hx hy hyx
  go_enter Tryz.func148, Tryz.ntmps148
  go_wp2
  go_loopw [5, 6, 11] (fun ov cv iv wr => ∃ (k br : Nat) (l : List Nat), k ≤ (digs x).length ∧ iv = .int .i64 k ∧ cv = .int .i64 br ∧ br ≤ 1 ∧ Hid (l.length = k) ∧ Hid (Dg l) ∧ Hid (val l + val ((digs y).take k) = val ((digs x).take k) + B ^ k * br) ∧ Row wr w.heap.size ov l ∧ Below w.heap.size w wr) (fun _ _ iv _ => (digs x).length - (intOf iv).toNat)
  case atStart => exact ⟨0, 0, [], Nat.zero_le _, rfl, rfl, by omega, HZ0, Dg.nil, HZ, Row.nil _ _, Below.refl _ _⟩
  case round =>
    obtain ⟨k, br, l, hk, rfl, rfl, hbr, HL, HDg, HV, hr, hb⟩ := hrel
    have hle := hb.size
    have hll : l.length ≤ 10000000000 := by rw [HL.out]; omega
    by_cases hlx : k < (digs x).length
    · have hV1 := val_take_wd (digs x) k
      have hV2 := val_take_wd (digs y) k
      obtain ⟨b, o, rfl, e0⟩ := sl_addr (s1.ext hb) (wcs_get hlx)
      have hX := HX.out.get hlx
      rw [wd_get hlx] at hV1
      generalize (digs x)[k] = X at *
      rw [B_eq] at hX
      by_cases hly : k < (digs y).length
      · obtain ⟨b', o', rfl, f0⟩ := sl_addr (s2.ext hb) (wcs_get hly)
        have hY := HY.out.get hly
        rw [wd_get hly] at hV2
        generalize (digs y)[k] = Y at *
        rw [B_eq] at hY
        by_cases hneg : X < br + Y
        · have HR : Hid (val (l ++ [X + 1000000000 - br - Y]) + val ((digs y).take (k + 1)) = val ((digs x).take (k + 1)) + B ^ (k + 1) * 1) := by
            have h1 := minus_step (X := X) (Y := Y) (n := X + 1000000000 - br - Y) (b2 := 1) HV.out (by rw [B_eq]; omega)
            rw [← hV1, ← hV2] at h1
            have : val (l ++ [X + 1000000000 - br - Y]) + val ((digs y).take (k + 1)) = val ((digs x).take (k + 1)) + B ^ (k + 1) * 1 := by
              rw [val_append, HL.out, Nat.pow_succ, ← h1]
              simp [val]
            exact this
          have HL2 : Hid ((l ++ [X + 1000000000 - br - Y]).length = k + 1) := by
            have : (l ++ [X + 1000000000 - br - Y]).length = k + 1 := by rw [List.length_append, HL.out]; rfl
            exact this
          have HD2 : Hid (Dg (l ++ [X + 1000000000 - br - Y])) := by
            have : Dg (l ++ [X + 1000000000 - br - Y]) := HDg.out.append (Dg.cons.2 ⟨by rw [B_eq]; omega, Dg.nil⟩)
            exact this
          clear hV1 hV2
          go_wp2_with (at_builtin; refine wpList_append_wd rfl _ _ rfl w.heap.size rfl hr (X + 1000000000 - br - Y) rfl (by omega) hll hle ?_; intro v' w' hr' hb')
          go_roundw
          case rel => exact ⟨k + 1, 1, _, by omega, by go_num, by go_num, by omega, HL2, HD2, HR, hr', hb.trans hb'⟩
          case measure => simp [intOf] <;> omega
        · have HR : Hid (val (l ++ [X - br - Y]) + val ((digs y).take (k + 1)) = val ((digs x).take (k + 1)) + B ^ (k + 1) * 0) := by
            have h1 := minus_step (X := X) (Y := Y) (n := X - br - Y) (b2 := 0) HV.out (by rw [B_eq]; omega)
            rw [← hV1, ← hV2] at h1
            have : val (l ++ [X - br - Y]) + val ((digs y).take (k + 1)) = val ((digs x).take (k + 1)) + B ^ (k + 1) * 0 := by
              rw [val_append, HL.out, Nat.pow_succ, ← h1]
              simp [val]
            exact this
          have HL2 : Hid ((l ++ [X - br - Y]).length = k + 1) := by
            have : (l ++ [X - br - Y]).length = k + 1 := by rw [List.length_append, HL.out]; rfl
            exact this
          have HD2 : Hid (Dg (l ++ [X - br - Y])) := by
            have : Dg (l ++ [X - br - Y]) := HDg.out.append (Dg.cons.2 ⟨by rw [B_eq]; omega, Dg.nil⟩)
            exact this
          clear hV1 hV2
          go_wp2_with (at_builtin; refine wpList_append_wd rfl _ _ rfl w.heap.size rfl hr (X - br - Y) rfl (by omega) hll hle ?_; intro v' w' hr' hb')
          go_roundw
          case rel => exact ⟨k + 1, 0, _, by omega, by go_num, by go_num, by omega, HL2, HD2, HR, hr', hb.trans hb'⟩
          case measure => simp [intOf] <;> omega
      · rw [wd_past (by omega)] at hV2
        by_cases hneg : X < br
        · have HR : Hid (val (l ++ [X + 1000000000 - br]) + val ((digs y).take (k + 1)) = val ((digs x).take (k + 1)) + B ^ (k + 1) * 1) := by
            have h1 := minus_step (X := X) (Y := 0) (n := X + 1000000000 - br) (b2 := 1) HV.out (by rw [B_eq]; omega)
            rw [← hV1, ← hV2] at h1
            have : val (l ++ [X + 1000000000 - br]) + val ((digs y).take (k + 1)) = val ((digs x).take (k + 1)) + B ^ (k + 1) * 1 := by
              rw [val_append, HL.out, Nat.pow_succ, ← h1]
              simp [val]
            exact this
          have HL2 : Hid ((l ++ [X + 1000000000 - br]).length = k + 1) := by
            have : (l ++ [X + 1000000000 - br]).length = k + 1 := by rw [List.length_append, HL.out]; rfl
            exact this
          have HD2 : Hid (Dg (l ++ [X + 1000000000 - br])) := by
            have : Dg (l ++ [X + 1000000000 - br]) := HDg.out.append (Dg.cons.2 ⟨by rw [B_eq]; omega, Dg.nil⟩)
            exact this
          clear hV1 hV2
          go_wp2_with (at_builtin; refine wpList_append_wd rfl _ _ rfl w.heap.size rfl hr (X + 1000000000 - br) rfl (by omega) hll hle ?_; intro v' w' hr' hb')
          go_roundw
          case rel => exact ⟨k + 1, 1, _, by omega, by go_num, by go_num, by omega, HL2, HD2, HR, hr', hb.trans hb'⟩
          case measure => simp [intOf] <;> omega
        · have HR : Hid (val (l ++ [X - br]) + val ((digs y).take (k + 1)) = val ((digs x).take (k + 1)) + B ^ (k + 1) * 0) := by
            have h1 := minus_step (X := X) (Y := 0) (n := X - br) (b2 := 0) HV.out (by rw [B_eq]; omega)
            rw [← hV1, ← hV2] at h1
            have : val (l ++ [X - br]) + val ((digs y).take (k + 1)) = val ((digs x).take (k + 1)) + B ^ (k + 1) * 0 := by
              rw [val_append, HL.out, Nat.pow_succ, ← h1]
              simp [val]
            exact this
          have HL2 : Hid ((l ++ [X - br]).length = k + 1) := by
            have : (l ++ [X - br]).length = k + 1 := by rw [List.length_append, HL.out]; rfl
            exact this
          have HD2 : Hid (Dg (l ++ [X - br])) := by
            have : Dg (l ++ [X - br]) := HDg.out.append (Dg.cons.2 ⟨by rw [B_eq]; omega, Dg.nil⟩)
            exact this
          clear hV1 hV2
          go_wp2_with (at_builtin; refine wpList_append_wd rfl _ _ rfl w.heap.size rfl hr (X - br) rfl (by omega) hll hle ?_; intro v' w' hr' hb')
          go_roundw
          case rel => exact ⟨k + 1, 0, _, by omega, by go_num, by go_num, by omega, HL2, HD2, HR, hr', hb.trans hb'⟩
          case measure => simp [intOf] <;> omega
    · obtain rfl : k = (digs x).length := by omega
      have HF : Hid (val l = x - y) := by
        have h1 := HV.out
        rw [List.take_of_length_le hly0, List.take_length, val_digs, val_digs] at h1
        have h2 := val_lt HDg.out
        rw [HL.out] at h2
        have h3 := HYX.out
        have hb0 : br = 0 := by
          rcases Nat.eq_zero_or_pos br with h | h
          · exact h
          · obtain rfl : br = 1 := by omega
            rw [Nat.mul_one] at h1; omega
        subst hb0
        rw [Nat.mul_zero] at h1
        have : val l = x - y := by omega
        exact this
      have hs := hr.sl
      have hT := trim_at l HDg.out _ _ hs
      rw [HF.out] at hT
      go_wp2_with fail
      refine Calls.mono hT ?_
      rintro e w' ⟨v, rfl, hv, rfl⟩
      clear hT hs
      go_wp2
      go_ret
      exact ⟨_, rfl, hv, hb⟩
end Nt
end Go.Proofs.YtilolnjbpokdnaaGreatDoor
