/- plus, minus of the reference's natural numbers. times of the reference's natural numbers. -/
import Derived.Test.YtemenlcigengeaaGreatDoorTq23
namespace Go.Proofs.YtemenlcigengeaaGreatDoor
open Go.RowKit
namespace Nt
set_option maxRecDepth 100000 in
set_option maxHeartbeats 4000000 in
theorem plus_at (x y : Nat) (v u : Value) (w : World) (hx : N w v x) (hy : N w u y) (hxl : wlen x ≤ 1000000000) (hyl : wlen y ≤ 1000000000) : Calls Tryz.prog 107 #[v, u] w (NPost w (x + y)) := by
  obtain ⟨a, c, rfl, s1⟩ := hx.open_
  obtain ⟨a', c', rfl, s2⟩ := hy.open_
  obtain ⟨p1, p2⟩ := sl_caps s1
  obtain ⟨q1, q2⟩ := sl_caps s2
  have HX := Lib.hid (digs_dg x)
  have HY := Lib.hid (digs_dg y)
  unfold wlen at hxl hyl
  have HZ0 : Hid (([] : List Nat).length = 0) := by
    have : ([] : List Nat).length = 0 := rfl
    exact this
  have HZ : Hid (val [] + B ^ 0 * 0 = val ((digs x).take 0) + val ((digs y).take 0)) := by
    have : val [] + B ^ 0 * 0 = val ((digs x).take 0) + val ((digs y).take 0) := by simp [val]
    exact this
  clear hx hy
  go_enter Tryz.func107, Tryz.ntmps107
  go_wp2
  go_loopw [5, 6, 7] (fun ov cv iv wr => ∃ (k cr : Nat) (l : List Nat), iv = .int .i64 k ∧ cv = .int .i64 cr ∧ cr ≤ 1 ∧ (k ≤ (digs x).length ∨ k ≤ (digs y).length ∨ (k ≤ (digs x).length + (digs y).length + 1 ∧ cr = 0)) ∧ Hid (l.length = k) ∧ Hid (Dg l) ∧ Hid (val l + B ^ k * cr = val ((digs x).take k) + val ((digs y).take k)) ∧ Row wr w.heap.size ov l ∧ Below w.heap.size w wr) (fun _ cv iv _ => (digs x).length + (digs y).length + 3 - (intOf iv).toNat)
  case atStart => exact ⟨0, 0, [], rfl, rfl, by omega, .inl (Nat.zero_le _), HZ0, Dg.nil, HZ, Row.nil _ _, Below.refl _ _⟩
  case round =>
    obtain ⟨k, cr, l, rfl, rfl, hcr, hk, HL, HDg, HV, hr, hb⟩ := hrel
    have hle := hb.size
    have hll : l.length ≤ 10000000000 := by rw [HL.out]; omega
    have hV1 := val_take_wd (digs x) k
    have hV2 := val_take_wd (digs y) k
    by_cases hlx : k < (digs x).length
    · obtain ⟨b, o, rfl, e0⟩ := sl_addr (s1.ext hb) (wcs_get hlx)
      have hX := HX.out.get hlx
      rw [wd_get hlx] at hV1
      generalize (digs x)[k] = X at *
      rw [B_eq] at hX
      by_cases hly : k < (digs y).length
      · obtain ⟨b', o', rfl, f0⟩ := sl_addr (s2.ext hb) (wcs_get hly)
        have hY := HY.out.get hly
        rw [wd_get hly] at hV2
        generalize (digs y)[k] = Y at *
        rw [B_eq] at hY
        have HR : Hid (val (l ++ [(cr + X + Y) % 1000000000]) + B ^ (k + 1) * ((cr + X + Y) / 1000000000) = val ((digs x).take (k + 1)) + val ((digs y).take (k + 1))) := by
          have h1 := add_step (x := X) (y := Y) HV.out
          rw [← hV1, ← hV2, B_eq] at h1
          have : val (l ++ [(cr + X + Y) % 1000000000]) + B ^ (k + 1) * ((cr + X + Y) / 1000000000) = val ((digs x).take (k + 1)) + val ((digs y).take (k + 1)) := by
            rw [val_append, HL.out, Nat.pow_succ, ← h1]
            simp [val, B_eq]
          exact this
        have HL2 : Hid ((l ++ [(cr + X + Y) % 1000000000]).length = k + 1) := by
          have : (l ++ [(cr + X + Y) % 1000000000]).length = k + 1 := by rw [List.length_append, HL.out]; rfl
          exact this
        have HD2 : Hid (Dg (l ++ [(cr + X + Y) % 1000000000])) := by
          have : Dg (l ++ [(cr + X + Y) % 1000000000]) := HDg.out.append (Dg.cons.2 ⟨by rw [B_eq]; omega, Dg.nil⟩)
          exact this
        clear hV1 hV2
        go_wp2_with (at_builtin; refine wpList_append_wd rfl _ _ rfl w.heap.size rfl hr ((cr + X + Y) % 1000000000) rfl (by omega) hll hle ?_; intro v' w' hr' hb')
        all_goals
          go_roundw
          case rel => exact ⟨k + 1, (cr + X + Y) / 1000000000, _, by go_num, by go_num, by omega, by omega, HL2, HD2, HR, hr', hb.trans hb'⟩
          case measure => simp [intOf] <;> omega
      · rw [wd_past (by omega)] at hV2
        have HR : Hid (val (l ++ [(cr + X) % 1000000000]) + B ^ (k + 1) * ((cr + X) / 1000000000) = val ((digs x).take (k + 1)) + val ((digs y).take (k + 1))) := by
          have h1 := add_step (x := X) (y := 0) HV.out
          rw [← hV1, ← hV2, Nat.add_zero, B_eq] at h1
          have : val (l ++ [(cr + X) % 1000000000]) + B ^ (k + 1) * ((cr + X) / 1000000000) = val ((digs x).take (k + 1)) + val ((digs y).take (k + 1)) := by
            rw [val_append, HL.out, Nat.pow_succ, ← h1]
            simp [val, B_eq]
          exact this
        have HL2 : Hid ((l ++ [(cr + X) % 1000000000]).length = k + 1) := by
          have : (l ++ [(cr + X) % 1000000000]).length = k + 1 := by rw [List.length_append, HL.out]; rfl
          exact this
        have HD2 : Hid (Dg (l ++ [(cr + X) % 1000000000])) := by
          have : Dg (l ++ [(cr + X) % 1000000000]) := HDg.out.append (Dg.cons.2 ⟨by rw [B_eq]; omega, Dg.nil⟩)
          exact this
        clear hV1 hV2
        go_wp2_with (at_builtin; refine wpList_append_wd rfl _ _ rfl w.heap.size rfl hr ((cr + X) % 1000000000) rfl (by omega) hll hle ?_; intro v' w' hr' hb')
        all_goals
          go_roundw
          case rel => exact ⟨k + 1, (cr + X) / 1000000000, _, by go_num, by go_num, by omega, by omega, HL2, HD2, HR, hr', hb.trans hb'⟩
          case measure => simp [intOf] <;> omega
    · rw [wd_past (by omega)] at hV1
      by_cases hly : k < (digs y).length
      · obtain ⟨b', o', rfl, f0⟩ := sl_addr (s2.ext hb) (wcs_get hly)
        have hY := HY.out.get hly
        rw [wd_get hly] at hV2
        generalize (digs y)[k] = Y at *
        rw [B_eq] at hY
        have HR : Hid (val (l ++ [(cr + Y) % 1000000000]) + B ^ (k + 1) * ((cr + Y) / 1000000000) = val ((digs x).take (k + 1)) + val ((digs y).take (k + 1))) := by
          have h1 := add_step (x := 0) (y := Y) HV.out
          rw [← hV1, ← hV2, Nat.add_zero, B_eq] at h1
          have : val (l ++ [(cr + Y) % 1000000000]) + B ^ (k + 1) * ((cr + Y) / 1000000000) = val ((digs x).take (k + 1)) + val ((digs y).take (k + 1)) := by
            rw [val_append, HL.out, Nat.pow_succ, ← h1]
            simp [val, B_eq]
          exact this
        have HL2 : Hid ((l ++ [(cr + Y) % 1000000000]).length = k + 1) := by
          have : (l ++ [(cr + Y) % 1000000000]).length = k + 1 := by rw [List.length_append, HL.out]; rfl
          exact this
        have HD2 : Hid (Dg (l ++ [(cr + Y) % 1000000000])) := by
          have : Dg (l ++ [(cr + Y) % 1000000000]) := HDg.out.append (Dg.cons.2 ⟨by rw [B_eq]; omega, Dg.nil⟩)
          exact this
        clear hV1 hV2
        go_wp2_with (at_builtin; refine wpList_append_wd rfl _ _ rfl w.heap.size rfl hr ((cr + Y) % 1000000000) rfl (by omega) hll hle ?_; intro v' w' hr' hb')
        all_goals
          go_roundw
          case rel => exact ⟨k + 1, (cr + Y) / 1000000000, _, by go_num, by go_num, by omega, by omega, HL2, HD2, HR, hr', hb.trans hb'⟩
          case measure => simp [intOf] <;> omega
      · rw [wd_past (by omega)] at hV2
        by_cases hc0 : 0 < cr
        · obtain rfl : cr = 1 := by omega
          have HR : Hid (val (l ++ [1]) + B ^ (k + 1) * (0) = val ((digs x).take (k + 1)) + val ((digs y).take (k + 1))) := by
            have h1 := add_step (x := 0) (y := 0) HV.out
            rw [← hV1, ← hV2, Nat.add_zero, Nat.add_zero, B_eq] at h1
            have : val (l ++ [1]) + B ^ (k + 1) * (0) = val ((digs x).take (k + 1)) + val ((digs y).take (k + 1)) := by
              rw [val_append, HL.out, Nat.pow_succ, ← h1]
              simp [val, B_eq]
            exact this
          have HL2 : Hid ((l ++ [1]).length = k + 1) := by
            have : (l ++ [1]).length = k + 1 := by rw [List.length_append, HL.out]; rfl
            exact this
          have HD2 : Hid (Dg (l ++ [1])) := by
            have : Dg (l ++ [1]) := HDg.out.append (Dg.cons.2 ⟨by rw [B_eq]; omega, Dg.nil⟩)
            exact this
          clear hV1 hV2
          go_wp2_with (at_builtin; refine wpList_append_wd rfl _ _ rfl w.heap.size rfl hr (1) rfl (by omega) hll hle ?_; intro v' w' hr' hb')
          all_goals
            go_roundw
            case rel => exact ⟨k + 1, 0, _, by go_num, by go_num, by omega, by omega, HL2, HD2, HR, hr', hb.trans hb'⟩
            case measure => simp [intOf] <;> omega
        · obtain rfl : cr = 0 := by omega
          have HF : Hid (val l = x + y) := by
            have h1 := HV.out
            rw [List.take_of_length_le (by omega), List.take_of_length_le (by omega), val_digs, val_digs, Nat.mul_zero, Nat.add_zero] at h1
            exact h1
          clear hV1 hV2 HV
          have hs := hr.sl
          have hT := trim_at l HDg.out _ _ hs
          rw [HF.out] at hT
          go_wp2_with fail
          all_goals
            refine Calls.mono hT ?_
            rintro e w' ⟨v, rfl, hv, rfl⟩
            go_wp2
            go_ret
            exact ⟨_, rfl, hv, hb⟩
theorem minus_step {P V A C X Y br n b2 : Nat} (h : V + C = A + P * br) (e : n + Y + br = X + B * b2) : (V + P * n) + (C + P * Y) = (A + P * X) + P * B * b2 := by
  have h2 : P * (n + Y + br) = P * (X + B * b2) := by rw [e]
  rw [Nat.mul_add, Nat.mul_add, Nat.mul_add, ← Nat.mul_assoc] at h2
  omega
end Nt
end Go.Proofs.YtemenlcigengeaaGreatDoor
namespace Go.Proofs.YtemenlcigengeaaGreatDoor
open Go.RowKit
namespace Nt
theorem mul_step {Pi Pk V V' V0 cr X Y O vk z q : Nat} (hset : V' + Pi * Pk * O = V + Pi * Pk * z) (hinv : V + Pi * Pk * cr = V0 + Pi * (X * vk)) (hs : z + B * q = cr + (X * Y + O)) : V' + Pi * (Pk * B) * q = V0 + Pi * (X * (vk + Pk * Y)) := by
  have e : Pi * Pk * (z + B * q) = Pi * Pk * (cr + (X * Y + O)) := by rw [hs]
  rw [Nat.mul_add, Nat.mul_add, Nat.mul_add] at e
  have e1 : Pi * (Pk * B) * q = Pi * Pk * (B * q) := by ac_rfl
  have e2 : Pi * (X * (vk + Pk * Y)) = Pi * (X * vk) + Pi * Pk * (X * Y) := by
    rw [Nat.mul_add, Nat.mul_add]; congr 1; ac_rfl
  omega
theorem mul_le {X Y : Nat} (hX : X < 1000000000) (hY : Y < 1000000000) : (X : Int) * (Y : Int) ≤ 999999998000000001 ∧ 0 ≤ (X : Int) * (Y : Int) := by
  have h : X * Y ≤ 999999999 * 999999999 := Nat.mul_le_mul (by omega) (by omega)
  have h2 : ((X * Y : Nat) : Int) = (X : Int) * (Y : Int) := Int.natCast_mul _ _
  omega
theorem val_take_set_in (l : List Nat) (k y T : Nat) (h : k < T) (hT : T ≤ l.length) : val ((l.set k y).take T) + B ^ k * l[k]'(by omega) = val (l.take T) + B ^ k * y := by
  have h1 : k < (l.take T).length := by rw [List.length_take]; omega
  have := val_set (l.take T) k y h1
  rw [List.take_set]
  simpa using this
/-- no digit from a place on -/
def Zr (l : List Nat) (t : Nat) : Prop := ∀ j, t ≤ j → wd l j = 0
theorem wd_set_ne (l : List Nat) {k j : Nat} (z : Nat) (h : k ≠ j) : wd (l.set k z) j = wd l j := by
  unfold wd; rw [List.getD_eq_getElem?_getD, List.getD_eq_getElem?_getD, List.getElem?_set_ne h]
theorem Zr.set {l : List Nat} {t k : Nat} (h : Zr l t) (z : Nat) (hk : k < t) : Zr (l.set k z) t := fun j hj => by rw [wd_set_ne _ _ (by omega)]; exact h j hj
theorem Zr.zeros (n t : Nat) : Zr (List.replicate n 0) t := fun j _ => by
  unfold wd
  rw [List.getD_eq_getElem?_getD, List.getElem?_replicate]
  split <;> rfl
theorem Zr.mono {l : List Nat} {t t' : Nat} (h : Zr l t) (ht : t ≤ t') : Zr l t' := fun j hj => h j (by omega)
def TL (x y : Nat) (i X : Nat) (k cr : Nat) (out : List Nat) : Prop :=
  (k ≤ (digs y).length ∧ val (out.take (i + (digs y).length)) + B ^ i * B ^ k * cr = val ((digs x).take i) * y + B ^ i * (X * val ((digs y).take k)) ∧ Zr out (i + (digs y).length)) ∨
  (k = (digs y).length + 1 ∧ cr = 0 ∧ val (out.take (i + 1 + (digs y).length)) = val ((digs x).take (i + 1)) * y ∧ Zr out (i + 1 + (digs y).length))
set_option maxRecDepth 100000 in
set_option maxHeartbeats 8000000 in
theorem times_at (x y : Nat) (v u : Value) (w : World) (hx : N w v x) (hy : N w u y) (hxl : wlen x ≤ 1000000000) (hyl : wlen y ≤ 1000000000) : Calls Tryz.prog 86 #[v, u] w (NPost w (x * y)) := by
  obtain ⟨a, c, rfl, s1⟩ := hx.open_
  obtain ⟨a', c', rfl, s2⟩ := hy.open_
  obtain ⟨p1, p2⟩ := sl_caps s1
  obtain ⟨q1, q2⟩ := sl_caps s2
  have HX := Lib.hid (digs_dg x)
  have HY := Lib.hid (digs_dg y)
  unfold wlen at hxl hyl
  clear hx hy
  go_enter Tryz.func86, Tryz.ntmps86
  go_wp2_with (refine wpList_make_words rfl _ _ rfl ((digs x).length + (digs y).length + 1) rfl rfl ?_ ?_ ?_; rotate_left 2; intro W hO hB hsz)
  case refine_1 => go_num
  case refine_2 => omega
  clear hsz
  obtain ⟨T, hT⟩ : ∃ T, T = (digs x).length + (digs y).length + 1 := ⟨_, rfl⟩
  rw [← hT] at hO
  have HT := Lib.hid hT
  have HZ : Hid (val ((List.replicate T 0).take (0 + (digs y).length)) = val ((digs x).take 0) * y) := by
    have : val ((List.replicate T 0).take (0 + (digs y).length)) = val ((digs x).take 0) * y := by rw [List.take_replicate, val_zeros]; simp [val]
    exact this
  have HL0 : Hid ((List.replicate T 0).length = T) := by
    have := @List.length_replicate Nat T 0
    exact this
  clear hT
  go_loopw [19] (fun iv wr => ∃ (i : Nat) (out : List Nat), i ≤ (digs x).length ∧ iv = .int .i64 i ∧ Hid (out.length = T) ∧ Hid (Dg out) ∧ Hid (val (out.take (i + (digs y).length)) = val ((digs x).take i) * y) ∧ Hid (Zr out (i + (digs y).length)) ∧ Own wr w.heap.size out ∧ Below w.heap.size w wr) (fun iv _ => (digs x).length - (intOf iv).toNat)
  case atStart => exact ⟨0, List.replicate T 0, by omega, rfl, HL0, Dg.zeros _, HZ, Zr.zeros _ _, hO, hB⟩
  case round =>
    clear HZ HL0 hO hB
    obtain ⟨i, out0, hi, rfl, HL, HDo, HV, HZr, hOk, hBk⟩ := hrel
    by_cases hlt : i < (digs x).length
    · obtain ⟨b, o, rfl, e0'⟩ := sl_addr (s1.ext hBk) (wcs_get hlt)
      have hX := HX.out.get hlt
      have HV1 := Lib.hid (val_take_succ (digs x) i hlt)
      have HE0 : Hid (∀ wr, Below w.heap.size w wr → wr.cell? ⟨b, o + i, none⟩ = some (.int .i64 ((digs x)[i] : Int))) := by
        have : ∀ wr, Below w.heap.size w wr → wr.cell? ⟨b, o + i, none⟩ = some (.int .i64 ((digs x)[i] : Int)) := fun wr hw => by
          obtain ⟨b2, o2, hb2, hc2⟩ := sl_addr (s1.ext hw) (wcs_get hlt)
          cases hb2; exact hc2
        exact this
      clear e0'
      generalize (digs x)[i] = X at *
      rw [B_eq] at hX
      have HTL : Hid (TL x y i X 0 0 out0) := by
        have : TL x y i X 0 0 out0 := .inl ⟨Nat.zero_le _, by rw [HV.out]; simp [val], HZr.out⟩
        exact this
      clear HV HZr
      go_wp2
      go_loopw [7, 8] (fun cv kv wr => ∃ (k cr : Nat) (out : List Nat), k ≤ (digs y).length + 1 ∧ kv = .int .i64 k ∧ cv = .int .i64 cr ∧ cr < 1000000000 ∧ Hid (out.length = T) ∧ Hid (Dg out) ∧ Hid (TL x y i X k cr out) ∧ Own wr w.heap.size out ∧ Below w.heap.size w wr) (fun _ kv _ => (digs y).length + 2 - (intOf kv).toNat)
      case atStart => exact ⟨0, 0, out0, by omega, rfl, rfl, by omega, HL, HDo, HTL, hOk, hBk⟩
      case round =>
        clear hOk hBk HL HDo HTL
        obtain ⟨k, cr, out, hk, rfl, rfl, hcr, HL, HDo, HTL, hOk, hBk⟩ := hrel
        have hik : i + (digs y).length + 1 ≤ out.length := by have h1 := HL.out; have h2 := HT.out; omega
        by_cases hlk : k < (digs y).length
        · obtain ⟨b', o', rfl, f0⟩ := sl_addr (s2.ext hBk) (wcs_get hlk)
          have hY := HY.out.get hlk
          have hko : i + k < out.length := by omega
          have e0 := HE0.out _ hBk
          have o0 := hOk.cell hko
          have o1 := hOk.frozen (i + k)
          have hOo := HDo.out.get hko
          have hV2 := val_take_succ (digs y) k hlk
          have hset := fun z => val_take_set_in out (i + k) z (i + (digs y).length) (by omega) (by omega)
          generalize out[i + k] = O at *
          generalize (digs y)[k] = Y at *
          rw [B_eq] at hY hOo
          obtain ⟨hm1, hm2⟩ := mul_le hX hY
          have hm3 : ((X * Y : Nat) : Int) = (X : Int) * (Y : Int) := Int.natCast_mul _ _
          have HR : Hid (TL x y i X (k + 1) ((cr + (X * Y + O)) / 1000000000) (out.set (i + k) ((cr + (X * Y + O)) % 1000000000))) := by
            have : TL x y i X (k + 1) ((cr + (X * Y + O)) / 1000000000) (out.set (i + k) ((cr + (X * Y + O)) % 1000000000)) := by
              rcases HTL.out with ⟨_, hE, hZ⟩ | ⟨hk1, _⟩
              · refine .inl ⟨by omega, ?_, hZ.set _ (by omega)⟩
                have h1 := hset ((cr + (X * Y + O)) % 1000000000)
                rw [Nat.pow_add] at h1
                have h2 := mul_step (Y := Y) h1 hE (q := (cr + (X * Y + O)) / 1000000000) (by rw [B_eq]; exact Nat.mod_add_div _ _)
                rw [hV2, Nat.pow_succ]; exact h2
              · omega
            exact this
          have HM := Lib.hid hm3
          have hw1 : IntKind.i64.wrap ((X : Int) * (Y : Int)) = (X : Int) * (Y : Int) := IntWalk.i64_in _ (by omega)
          have hw2 : IntKind.i64.wrap ((O : Int) + (cr : Int) + (X : Int) * (Y : Int)) = (O : Int) + (cr : Int) + (X : Int) * (Y : Int) := IntWalk.i64_in _ (by omega)
          have hi0 : (0 : Int) ≤ (i : Int) := by omega
          have hi1 : (i : Int) < ((digs x).length : Int) := by omega
          have hk0 : (0 : Int) ≤ (k : Int) := by omega
          have hk1 : (k : Int) < ((digs y).length : Int) := by omega
          have HTLx := HTL
          clear hset hV2 hm3 HTL HTLx
          go_wp2
          go_quiet (fail)
          clear hw1 hw2
          go_wp2
          go_roundw
          case rel => exact ⟨k + 1, (cr + (X * Y + O)) / 1000000000, out.set (i + k) ((cr + (X * Y + O)) % 1000000000), by omega, by go_num, by rw [← HM.out]; go_num, by have := HM.out; omega, Hid.len_set HL _ _, Hid.dg_set HDo _ (Nat.mod_lt _ B_pos), HR, hOk.set' hko _ (by rw [← HM.out]; omega), (below_drewN hBk _).setCell (Nat.le_refl _) _⟩
          case measure => simp [intOf] <;> omega
        · by_cases hc0 : 0 < cr
          · obtain rfl : k = (digs y).length := by
              rcases HTL.out with ⟨h, _⟩ | ⟨_, h, _⟩ <;> omega
            have hko : i + (digs y).length < out.length := by omega
            obtain ⟨_, hE, hZ⟩ | ⟨h, _⟩ := HTL.out
            · have hz0 := hZ (i + (digs y).length) (Nat.le_refl _)
              rw [wd_get hko] at hz0
              have o0 := hOk.cell hko
              rw [hz0] at o0
              have o1 := hOk.frozen (i + (digs y).length)
              have HR : Hid (TL x y i X ((digs y).length + 1) 0 (out.set (i + (digs y).length) cr)) := by
                have : TL x y i X ((digs y).length + 1) 0 (out.set (i + (digs y).length) cr) := by
                  refine .inr ⟨rfl, rfl, ?_, ?_⟩
                  · have h1 := val_take_set out (i + (digs y).length) cr hko
                    have h2 := hE
                    rw [List.take_length, val_digs] at h2
                    rw [Nat.add_right_comm, h1, Nat.pow_add, h2, HV1.out, Nat.add_mul, Nat.mul_assoc]
                  · intro j hj
                    rw [wd_set_ne _ _ (by omega)]
                    exact hZ j (by omega)
                exact this
              clear hE hZ hz0 HTL
              go_wp2
              go_roundw
              case rel => exact ⟨(digs y).length + 1, 0, out.set (i + (digs y).length) cr, by omega, by go_num, by go_num, by omega, Hid.len_set HL _ _, Hid.dg_set HDo _ (by rw [B_eq]; omega), HR, hOk.set' hko _ (by omega), hBk.setCell (Nat.le_refl _) _⟩
              case measure => simp [intOf] <;> omega
            · omega
          · obtain rfl : cr = 0 := by omega
            have HF : Hid (val (out.take (i + 1 + (digs y).length)) = val ((digs x).take (i + 1)) * y ∧ Zr out (i + 1 + (digs y).length)) := by
              have : val (out.take (i + 1 + (digs y).length)) = val ((digs x).take (i + 1)) * y ∧ Zr out (i + 1 + (digs y).length) := by
                rcases HTL.out with ⟨h, hE, hZ⟩ | ⟨_, _, h1, h2⟩
                · obtain rfl : k = (digs y).length := by omega
                  rw [List.take_length, val_digs, Nat.mul_zero, Nat.add_zero] at hE
                  refine ⟨?_, hZ.mono (by omega)⟩
                  rw [show i + 1 + (digs y).length = i + (digs y).length + 1 by omega, val_take_wd, hZ _ (Nat.le_refl _), Nat.mul_zero, Nat.add_zero, hE, HV1.out, Nat.add_mul, Nat.mul_assoc]
                · exact ⟨h1, h2⟩
              exact this
            clear HTL
            go_wp2
            go_roundw
            case rel => exact ⟨i + 1, out, by omega, by go_num, HL, HDo, HF.out.1, HF.out.2, hOk, hBk⟩
            case measure => simp [intOf] <;> omega
    · obtain rfl : i = (digs x).length := by omega
      have HF : Hid (val out0 = x * y) := by
        have h1 := HV.out
        have h2 := HZr.out ((digs x).length + (digs y).length) (Nat.le_refl _)
        have h3 := val_take_wd out0 ((digs x).length + (digs y).length)
        rw [h2, h1, List.take_of_length_le (by rw [HL.out, HT.out]; omega), List.take_length, val_digs] at h3
        have : val out0 = x * y := by simpa using h3
        exact this
      have hTl := HT.out
      have hcap : T ≤ 3000000000 := by omega
      clear HV HZr hTl
      have hs := hOk.sl (c := T) (by rw [HL.out]; omega) (by unfold maxLen; omega)
      have hT := trim_at out0 HDo.out _ _ hs
      rw [HL.out, HF.out, HT.out] at hT
      go_wp2_with fail
      refine Calls.mono hT ?_
      rintro e w' ⟨v, rfl, hv, rfl⟩
      clear hT hs
      go_wp2
      go_ret
      exact ⟨_, rfl, hv, hBk⟩
end Nt
end Go.Proofs.YtemenlcigengeaaGreatDoor
