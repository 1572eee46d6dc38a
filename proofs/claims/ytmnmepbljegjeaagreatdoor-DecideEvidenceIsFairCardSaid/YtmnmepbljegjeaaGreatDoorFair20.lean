/- scaled, short of the reference's natural numbers. take, give, guess of the reference's natural numbers. -/
import Derived.Test.YtmnmepbljegjeaaGreatDoorFair19
namespace Go.Proofs.YtmnmepbljegjeaaGreatDoor
open Go.RowKit
namespace Nt
theorem scale_step {V P A c X f z q : Nat} (h : V + P * c = A * f) (hs : z + B * q = X * f + c) : (V + P * z) + P * B * q = (A + P * X) * f := by
  have e : P * (z + B * q) = P * (X * f + c) := by rw [hs]
  rw [Nat.mul_add, Nat.mul_add, ← Nat.mul_assoc] at e
  rw [Nat.add_mul, Nat.mul_assoc P X f]
  omega
theorem mul_le' {X f : Nat} (hX : X < 1000000000) (hf : f ≤ 1000000000) : (X : Int) * (f : Int) ≤ 999999999000000000 ∧ 0 ≤ (X : Int) * (f : Int) := by
  have h : X * f ≤ 999999999 * 1000000000 := Nat.mul_le_mul (by omega) (by omega)
  have h2 : ((X * f : Nat) : Int) = (X : Int) * (f : Int) := Int.natCast_mul _ _
  omega
theorem carry_lt {X f c : Nat} (hX : X < 1000000000) (hc : c < f) : (X * f + c) / 1000000000 < f := by
  rw [Nat.div_lt_iff_lt_mul (by omega)]
  have : (X + 1) * f ≤ 1000000000 * f := Nat.mul_le_mul_right _ (by omega)
  rw [Nat.add_mul, Nat.one_mul] at this
  rw [Nat.mul_comm f]; omega
set_option maxRecDepth 100000 in
set_option maxHeartbeats 4000000 in
theorem scaled_at (x f : Nat) (v : Value) (w : World) (hx : N w v x) (hf0 : 0 < f) (hf : f ≤ 1000000000) (hxl : wlen x ≤ 1000000000) : Calls Tryz.prog 183 #[v, .int .i64 (f : Int)] w (NPost w (x * f)) := by
  obtain ⟨a, c, rfl, s1⟩ := hx.open_
  obtain ⟨p1, p2⟩ := sl_caps s1
  have HX := Lib.hid (digs_dg x)
  unfold wlen at hxl
  have HZ0 : Hid (([] : List Nat).length = 0) := by
    have : ([] : List Nat).length = 0 := rfl
    exact this
  have HZ : Hid (val [] + B ^ 0 * 0 = val ((digs x).take 0) * f) := by
    have : val [] + B ^ 0 * 0 = val ((digs x).take 0) * f := by simp [val]
    exact this
  clear hx
  go_enter Tryz.func183, Tryz.ntmps183
  go_wp2
  go_loopw [5, 6, 11] (fun ov cv iv wr => ∃ (k cr : Nat) (l : List Nat), k ≤ (digs x).length ∧ iv = .int .i64 k ∧ cv = .int .i64 cr ∧ cr < f ∧ Hid (l.length = k) ∧ Hid (Dg l) ∧ Hid (val l + B ^ k * cr = val ((digs x).take k) * f) ∧ Row wr w.heap.size ov l ∧ Below w.heap.size w wr) (fun _ _ iv _ => (digs x).length - (intOf iv).toNat)
  case atStart => exact ⟨0, 0, [], Nat.zero_le _, rfl, rfl, hf0, HZ0, Dg.nil, HZ, Row.nil _ _, Below.refl _ _⟩
  case round =>
    obtain ⟨k, cr, l, hk, rfl, rfl, hcr, HL, HDg, HV, hr, hb⟩ := hrel
    have hle := hb.size
    have hll : l.length ≤ 10000000000 := by rw [HL.out]; omega
    by_cases hlx : k < (digs x).length
    · have hV1 := val_take_succ (digs x) k hlx
      obtain ⟨b, o, rfl, e0⟩ := sl_addr (s1.ext hb) (wcs_get hlx)
      have hX := HX.out.get hlx
      generalize (digs x)[k] = X at *
      rw [B_eq] at hX
      obtain ⟨hm1, hm2⟩ := mul_le' hX hf
      have HM : Hid (((X * f : Nat) : Int) = (X : Int) * (f : Int)) := by
        have : ((X * f : Nat) : Int) = (X : Int) * (f : Int) := Int.natCast_mul _ _
        exact this
      have HR : Hid (val (l ++ [(X * f + cr) % 1000000000]) + B ^ (k + 1) * ((X * f + cr) / 1000000000) = val ((digs x).take (k + 1)) * f) := by
        have h1 := scale_step (X := X) (z := (X * f + cr) % 1000000000) (q := (X * f + cr) / 1000000000) HV.out (by rw [B_eq]; exact Nat.mod_add_div _ _)
        have : val (l ++ [(X * f + cr) % 1000000000]) + B ^ (k + 1) * ((X * f + cr) / 1000000000) = val ((digs x).take (k + 1)) * f := by
          rw [val_append, HL.out, hV1, ← h1, Nat.pow_succ]; simp [val]
        exact this
      have HL2 : Hid ((l ++ [(X * f + cr) % 1000000000]).length = k + 1) := by
        have : (l ++ [(X * f + cr) % 1000000000]).length = k + 1 := by rw [List.length_append, HL.out]; rfl
        exact this
      have HD2 : Hid (Dg (l ++ [(X * f + cr) % 1000000000])) := by
        have : Dg (l ++ [(X * f + cr) % 1000000000]) := HDg.out.append (Dg.cons.2 ⟨Nat.mod_lt _ B_pos, Dg.nil⟩)
        exact this
      have hcl := carry_lt (c := cr) hX hcr
      clear hV1
      go_wp2_with (at_builtin; refine wpList_append_wd rfl _ _ rfl w.heap.size rfl hr ((X * f + cr) % 1000000000) rfl (by have := HM.out; omega) hll hle ?_; intro v' w' hr' hb')
      go_roundw
      case rel => exact ⟨k + 1, (X * f + cr) / 1000000000, _, by omega, by go_num, by rw [← HM.out]; go_num, hcl, HL2, HD2, HR, hr', hb.trans hb'⟩
      case measure => simp [intOf] <;> omega
    · obtain rfl : k = (digs x).length := by omega
      have HE : Hid (val l + B ^ l.length * cr = x * f) := by
        have h1 := HV.out
        rw [List.take_length, val_digs] at h1
        have : val l + B ^ l.length * cr = x * f := by rw [HL.out]; exact h1
        exact this
      have hcr2 : cr < 1000000000 := by omega
      have hl2 : l.length ≤ 1000000000 := by rw [HL.out]; exact hxl
      clear HV HL hcr hll hle
      go_wp2
      go_loopw [5, 6] (fun ov cv wr => ∃ (cr : Nat) (l : List Nat), cv = .int .i64 cr ∧ cr < 1000000000 ∧ (l.length ≤ 1000000000 ∨ (cr = 0 ∧ l.length ≤ 1000000001)) ∧ Hid (Dg l) ∧ Hid (val l + B ^ l.length * cr = x * f) ∧ Row wr w.heap.size ov l ∧ Below w.heap.size w wr) (fun _ cv _ => (intOf cv).toNat)
      case atStart => exact ⟨cr, l, rfl, hcr2, .inl hl2, HDg, HE, hr, hb⟩
      case round =>
        clear hr hb HE HDg hcr2 hl2
        obtain ⟨cr, l, rfl, hcr, hll, HDg, HE, hr, hb⟩ := hrel
        have hle := hb.size
        have hl3 : l.length ≤ 10000000000 := by omega
        by_cases h0 : 0 < cr
        · have HE2 : Hid (val (l ++ [cr]) + B ^ (l ++ [cr]).length * 0 = x * f) := by
            have : val (l ++ [cr]) + B ^ (l ++ [cr]).length * 0 = x * f := by rw [val_append, ← HE.out]; simp [val]
            exact this
          have HD2 : Hid (Dg (l ++ [cr])) := by
            have : Dg (l ++ [cr]) := HDg.out.append (Dg.cons.2 ⟨hcr, Dg.nil⟩)
            exact this
          have HL2 : Hid ((l ++ [cr]).length = l.length + 1) := by
            have : (l ++ [cr]).length = l.length + 1 := by rw [List.length_append]; rfl
            exact this
          have hl4 : l.length + 1 ≤ 1000000001 := by omega
          go_wp2_with (at_builtin; refine wpList_append_wd rfl _ _ rfl w.heap.size rfl hr cr rfl (by omega) hl3 hle ?_; intro v' w' hr' hb')
          go_roundw
          case rel => exact ⟨0, l ++ [cr], by go_num, by omega, .inr ⟨rfl, by rw [HL2.out]; exact hl4⟩, HD2, HE2, hr', hb.trans hb'⟩
          case measure => simp [intOf] <;> omega
        · obtain rfl : cr = 0 := by omega
          have HF : Hid (val l = x * f) := by
            have := HE.out
            rw [Nat.mul_zero, Nat.add_zero] at this
            exact this
          clear HE
          have hs := hr.sl
          have hT := trim_at l HDg.out _ _ hs
          rw [HF.out] at hT
          go_wp2_with fail
          refine Calls.mono hT ?_
          rintro e w' ⟨v, rfl, hv, rfl⟩
          clear hT hs
          go_wp2
          go_ret
          exact ⟨_, rfl, hv, hb⟩
theorem sdiv {rt A n : Nat} (hr : rt < n) (hA : A < 1000000000) (hn : n ≤ 1000000000) : ∃ g r : Nat, g * n + r = rt * 1000000000 + A ∧ r < n ∧ g < 1000000000 ∧
    ((rt : Int) * 1000000000 + (A : Int)).tdiv (n : Int) = (g : Int) ∧ ((rt : Int) * 1000000000 + (A : Int)).tmod (n : Int) = (r : Int) ∧ ((rt : Int) * 1000000000 + (A : Int)) / (n : Int) = (g : Int) ∧ ((rt : Int) * 1000000000 + (A : Int)) % (n : Int) = (r : Int) := by
  have hc : ((rt : Int) * 1000000000 + (A : Int)) = ((rt * 1000000000 + A : Nat) : Int) := by omega
  refine ⟨(rt * 1000000000 + A) / n, (rt * 1000000000 + A) % n, Nat.div_add_mod' _ _, Nat.mod_lt _ (by omega), ?_, ?_, ?_, ?_, ?_⟩
  · rw [Nat.div_lt_iff_lt_mul (by omega)]
    have : (rt + 1) * 1000000000 ≤ n * 1000000000 := Nat.mul_le_mul_right _ hr
    rw [Nat.mul_comm 1000000000]; omega
  · rw [hc]; rfl
  · rw [hc]; rfl
  · rw [hc]; rfl
  · rw [hc]; rfl
theorem short_step {o a g r n rt A : Nat} (h : a = o * n + rt) (hg : g * n + r = rt * B + A) : A + B * a = (g + B * o) * n + r := by
  rw [h, Nat.mul_add, Nat.add_mul, Nat.mul_assoc, Nat.mul_comm B rt]; omega
def ShortPost (w : World) (x n : Nat) (e : Ending) (w' : World) : Prop := ∃ v, e = .returned (.tuple #[v, .int .i64 ((x % n : Nat) : Int)]) ∧ N w' v (x / n) ∧ Below w.heap.size w w'
set_option maxRecDepth 100000 in
set_option maxHeartbeats 4000000 in
theorem short_at (x n : Nat) (v : Value) (w : World) (hx : N w v x) (hn0 : 0 < n) (hn : n ≤ 1000000000) (hxl : wlen x ≤ 2000000000) : Calls Tryz.prog 182 #[v, .int .i64 (n : Int)] w (ShortPost w x n) := by
  obtain ⟨a, c, rfl, s1⟩ := hx.open_
  obtain ⟨p1, p2⟩ := sl_caps s1
  have HX := Lib.hid (digs_dg x)
  unfold wlen at hxl
  have hne : ((n : Int) == 0) = false := by simp; omega
  clear hx
  go_enter Tryz.func182, Tryz.ntmps182
  go_wp2_with (refine wpList_make_words rfl _ _ rfl (digs x).length rfl rfl ?_ ?_ ?_; rotate_left 2; intro W hO hB hsz)
  case refine_1 => go_num
  case refine_2 => omega
  clear hsz
  have HZ : Hid (val ((digs x).drop (digs x).length) = val ((List.replicate (digs x).length 0).drop (digs x).length) * n + 0) := by
    have : val ((digs x).drop (digs x).length) = val ((List.replicate (digs x).length 0).drop (digs x).length) * n + 0 := by rw [List.drop_length, List.drop_of_length_le (by simp)]; simp [val]
    exact this
  have HL0 : Hid ((List.replicate (digs x).length 0).length = (digs x).length) := by
    have := @List.length_replicate Nat (digs x).length 0
    exact this
  go_loopw [7, 8] (fun rv iv wr => ∃ (k rt : Nat) (out : List Nat), k ≤ (digs x).length ∧ iv = .int .i64 ((k : Int) - 1) ∧ rv = .int .i64 rt ∧ rt < n ∧ Hid (out.length = (digs x).length) ∧ Hid (Dg out) ∧ Hid (val ((digs x).drop k) = val (out.drop k) * n + rt) ∧ Own wr w.heap.size out ∧ Below w.heap.size w wr) (fun _ iv _ => (intOf iv + 1).toNat)
  case atStart => exact ⟨_, 0, _, Nat.le_refl _, rfl, rfl, hn0, HL0, Dg.zeros _, HZ, hO, hB⟩
  case round =>
    clear HZ HL0 hO hB
    obtain ⟨k, rt, out, hk, rfl, rfl, hrt, HL, HDo, HV, hOk, hBk⟩ := hrel
    cases k with
    | zero =>
      have HF : Hid (val out = x / n ∧ rt = x % n) := by
        have h1 := HV.out
        rw [List.drop_zero, List.drop_zero, val_digs] at h1
        have h2 : val out = x / n ∧ rt = x % n := by
          rw [h1, Nat.add_comm, Nat.add_mul_div_right _ _ hn0, Nat.div_eq_of_lt hrt, Nat.add_mul_mod_self_right, Nat.mod_eq_of_lt hrt]
          exact ⟨by omega, rfl⟩
        exact h2
      have hs := hOk.sl (c := (digs x).length) (by rw [HL.out]; omega) (by unfold maxLen; omega)
      have hT := trim_at out HDo.out _ _ hs
      rw [HL.out, HF.out.1] at hT
      rw [show ((rt : Nat) : Int) = ((x % n : Nat) : Int) by rw [HF.out.2]]
      clear HF HV
      go_wp2_with fail
      refine Calls.mono hT ?_
      rintro e w' ⟨v, rfl, hv, rfl⟩
      clear hT hs
      go_wp2
      go_ret2
      exact ⟨_, rfl, hv, hBk⟩
    | succ j =>
      have hj : j < (digs x).length := by omega
      obtain ⟨b, o, rfl, e0⟩ := sl_addr (s1.ext hBk) (wcs_get hj)
      have hX := HX.out.get hj
      have hjo : j < out.length := by rw [HL.out]; exact hj
      have o0 := hOk.cell hjo
      have o1 := hOk.frozen j
      have hV1 := val_drop (digs x) j hj
      generalize (digs x)[j] = X at *
      rw [B_eq] at hX
      obtain ⟨g, r, hg, hr, hgB, e1, e2, e3, e4⟩ := sdiv hrt hX hn
      rw [show (((j + 1 : Nat) : Int) - 1) = (j : Int) by omega]
      have HR : Hid (val ((digs x).drop j) = val ((out.set j g).drop j) * n + r) := by
        have : val ((digs x).drop j) = val ((out.set j g).drop j) * n + r := by
          rw [hV1, drop_set out j g hjo]
          exact short_step HV.out (by rw [B_eq]; exact hg)
        exact this
      have HG := Lib.hid hg
      have hrt2 : rt < 1000000000 := by omega
      clear hV1 hg HV
      go_wp2
      go_roundw
      case rel => exact ⟨j, r, out.set j g, by omega, by go_num, by go_num, hr, Hid.len_set HL _ _, Hid.dg_set HDo _ hgB, HR, hOk.set hjo g, hBk.setCell (Nat.le_refl _) _⟩
      case measure => simp [intOf] <;> omega
end Nt
end Go.Proofs.YtmnmepbljegjeaaGreatDoor
namespace Go.Proofs.YtmnmepbljegjeaaGreatDoor
open Go.RowKit
namespace Nt
theorem sub_step {V A C P X Y z c c' : Nat} (h : V + C = A + P * c) (hz : z + Y + c = X + B * c') : (V + P * z) + (C + P * Y) = (A + P * X) + P * B * c' := minus_step h hz
theorem only_setCell {a w : World} {g : Nat} (h : a.grownBy w (some g)) {i : Nat} (u : Value) : a.grownBy (w.setCell ⟨g, i, none⟩ u) (some g) :=
  ⟨h.os, h.tape, h.output, by simpa [World.setCell] using h.size, fun j hj hne => (Below.heap_setCell w ⟨g, i, none⟩ u j (by
    rintro rfl; exact hne rfl)).trans (h.block j hj hne)⟩
theorem N.grown {w w' : World} {b b2 o2 c2 n : Nat} (h : N w (.slice (some ⟨b2, o2, none⟩) (wlen n) c2) n) (hg : w.grownBy w' (some b)) (hne : b2 ≠ b) : N w' (.slice (some ⟨b2, o2, none⟩) (wlen n) c2) n := by
  obtain ⟨a, cap, hv, h1, h2, h0, h3⟩ := h
  cases hv
  refine ⟨_, c2, rfl, h1, h2, h0, fun i x hx => ?_⟩
  obtain ⟨b', o', ha, hc⟩ := h3 i x hx
  cases ha
  exact ⟨b2, o2, rfl, (World.cell?_of_block (hg.block b2 (World.block_lt_of_cell? w _ hc) (fun e => by cases e; exact hne rfl))).trans hc⟩
theorem drop_set_ge (l : List Nat) (i k z : Nat) : (l.set (i + k) z).drop i = (l.drop i).set k z := by
  rw [List.drop_set, if_neg (by omega)]; congr 1; omega
theorem take_set_ge (l : List Nat) (i k z : Nat) : (l.set (i + k) z).take i = l.take i := by
  rw [List.take_set_of_le (by omega)]
/-- the part of t words from i on -/
def seg (l : List Nat) (i t : Nat) : List Nat := (l.drop i).take t
theorem seg_set (l : List Nat) {i k : Nat} (h : i + k < l.length) (z : Nat) : val (seg (l.set (i + k) z) i (k + 1)) = val (seg l i k) + B ^ k * z := by
  unfold seg; rw [drop_set_ge, val_take_set _ _ _ (by rw [List.length_drop]; omega)]
theorem seg_succ (l : List Nat) {i k : Nat} (h : i + k < l.length) : val (seg l i (k + 1)) = val (seg l i k) + B ^ k * l[i + k] := by
  unfold seg; rw [val_take_succ _ _ (by rw [List.length_drop]; omega)]; simp
theorem seg_lt {l : List Nat} (h : Dg l) (i t : Nat) : val (seg l i t) < B ^ t := by
  have := val_lt ((h.drop i).take t)
  refine Nat.lt_of_lt_of_le this (Nat.pow_le_pow_right B_pos ?_)
  rw [List.length_take]; omega
theorem drop_get {l m : List Nat} {k : Nat} (h : l.drop k = m.drop k) (h1 : k < l.length) (h2 : k < m.length) : l[k] = m[k] ∧ l.drop (k + 1) = m.drop (k + 1) := by
  rw [List.drop_eq_getElem_cons h1, List.drop_eq_getElem_cons h2] at h
  exact List.cons.inj h
def TakePost (w : World) (b : Nat) (L : List Nat) (i t V n : Nat) (e : Ending) (w' : World) : Prop :=
  ∃ (L' : List Nat) (br : Nat), br ≤ 1 ∧ e = .returned (.bool (decide (val (seg L i t) < n * V))) ∧ L'.length = L.length ∧ Dg L' ∧ L'.take i = L.take i ∧ L'.drop (i + t) = L.drop (i + t) ∧ val (seg L' i t) + n * V = val (seg L i t) + B ^ t * br ∧ (br = 1 ↔ val (seg L i t) < n * V) ∧ Own w' b L' ∧ w.grownBy w' (some b)
def BackPost (w : World) (b : Nat) (L : List Nat) (i t V : Nat) (e : Ending) (w' : World) : Prop :=
  ∃ (L' : List Nat) (br : Nat), br ≤ 1 ∧ e = .returned (.tuple #[]) ∧ L'.length = L.length ∧ Dg L' ∧ L'.take i = L.take i ∧ L'.drop (i + t) = L.drop (i + t) ∧ val (seg L' i t) + B ^ t * br = val (seg L i t) + V ∧ Own w' b L' ∧ w.grownBy w' (some b)
theorem take_step {P V A n Vk c c' X vk z : Nat} (h : V + n * Vk = A + P * c) (hz : z + n * vk + c = X + B * c') : (V + P * z) + n * (Vk + P * vk) = (A + P * X) + P * B * c' := by
  have := sub_step (Y := n * vk) h hz
  rw [Nat.mul_add, show n * (P * vk) = P * (n * vk) by ac_rfl]
  exact this
theorem nmul_le {n v : Nat} (hn : n ≤ 1000000000) (hv : v < 1000000000) : 0 ≤ (n : Int) * (v : Int) ∧ (n : Int) * (v : Int) ≤ 999999999000000000 := by
  have h : n * v ≤ 1000000000 * 999999999 := Nat.mul_le_mul hn (by omega)
  have h2 : ((n * v : Nat) : Int) = (n : Int) * (v : Int) := Int.natCast_mul _ _
  omega
set_option maxRecDepth 100000 in
set_option maxHeartbeats 16000000 in
theorem take_at (L : List Nat) (hL : Dg L) (b i cx V n b2 o2 c2 : Nat) (w : World) (hO : Own w b L) (hv : N w (.slice (some ⟨b2, o2, none⟩) (wlen V) c2) V) (hne : b2 ≠ b) (hit : i + wlen V + 1 ≤ L.length) (hLl : L.length ≤ 2000000000) (hcx : L.length ≤ cx) (hcx2 : cx ≤ maxLen) (hc2 : wlen V ≤ c2) (hc3 : c2 ≤ maxLen) (hn : n ≤ 1000000000) :
    Calls Tryz.prog 185 #[.slice (some ⟨b, 0, none⟩) L.length cx, .slice (some ⟨b2, o2, none⟩) (wlen V) c2, .int .i64 (i : Int), .int .i64 (n : Int)] w (TakePost w b L i (wlen V + 1) V n) := by
  have HV := Lib.hid (digs_dg V)
  have HL := Lib.hid hL
  have HNV := Lib.hid hv
  have HVB := Lib.hid (lt_pow_wlen V)
  unfold maxLen at hcx2 hc3
  unfold wlen at hit hc2 ⊢
  clear hL hv
  have HZ : Hid (val (seg L i 0) + n * val ((digs V).take 0) = val (seg L i 0) + B ^ 0 * 0) := by
    have : val (seg L i 0) + n * val ((digs V).take 0) = val (seg L i 0) + B ^ 0 * 0 := by simp [val]
    exact this
  go_enter Tryz.func185, Tryz.ntmps185
  go_wp2
  go_loopw [9, 10] (fun bv iv wr => ∃ (k c : Nat) (S : List Nat), k ≤ (digs V).length + 1 ∧ iv = .int .i64 k ∧ bv = .int .i64 c ∧ c ≤ 1000000000 ∧ Hid (S.length = L.length) ∧ Hid (Dg S) ∧ Hid (S.take i = L.take i) ∧ Hid (S.drop (i + k) = L.drop (i + k)) ∧ Hid (val (seg S i k) + n * val ((digs V).take k) = val (seg L i k) + B ^ k * c) ∧ Own wr b S ∧ w.grownBy wr (some b)) (fun _ iv _ => (digs V).length + 1 - (intOf iv).toNat)
  case atStart => exact ⟨0, 0, L, by omega, rfl, rfl, by omega, Lib.hid rfl, HL, Lib.hid rfl, Lib.hid rfl, HZ, hO, World.grownBy.refl w _⟩
  case round =>
    obtain ⟨k, c, S, hk, rfl, rfl, hc, HSl, HSd, HSt, HSr, HI, hOk, hgk⟩ := hrel
    by_cases hlt : k ≤ (digs V).length
    · have hko : i + k < S.length := by have := HSl.out; omega
      have hkl : i + k < L.length := by omega
      have o0 := hOk.cell hko
      have o1 := hOk.frozen (i + k)
      have hX := HL.out.get hkl
      obtain ⟨hXe, hSr2⟩ := drop_get HSr.out hko hkl
      have HSr2 : ∀ z, Hid ((S.set (i + k) z).drop (i + (k + 1)) = L.drop (i + (k + 1))) := fun z => by
        have : (S.set (i + k) z).drop (i + (k + 1)) = L.drop (i + (k + 1)) := by rw [List.drop_set_of_lt (by omega)]; exact hSr2
        exact this
      have HSt2 : ∀ z, Hid ((S.set (i + k) z).take i = L.take i) := fun z => by
        have : (S.set (i + k) z).take i = L.take i := by rw [take_set_ge]; exact HSt.out
        exact this
      have HST : ∀ z vk c', Hid (wd (digs V) k = vk → z + n * vk + c = L[i + k] + B * c' → val (seg (S.set (i + k) z) i (k + 1)) + n * val ((digs V).take (k + 1)) = val (seg L i (k + 1)) + B ^ (k + 1) * c') := fun z vk c' => by
        have : wd (digs V) k = vk → z + n * vk + c = L[i + k] + B * c' → val (seg (S.set (i + k) z) i (k + 1)) + n * val ((digs V).take (k + 1)) = val (seg L i (k + 1)) + B ^ (k + 1) * c' := fun hY hz => by
          rw [seg_set S hko, seg_succ L hkl, val_take_wd, hY, Nat.pow_succ]
          exact take_step HI.out hz
        exact this
      rw [hXe] at o0
      have hki : ((k + i : Nat) : Int) < (L.length : Int) := by omega
      have HKO := Lib.hid hko
      have H1 := Lib.hid HSr2
      have H2 := Lib.hid HSt2
      have H3 := Lib.hid HST
      clear HST HSt2 HSr2 hSr2 hXe HI HSr HSt hko
      by_cases hly : k < (digs V).length
      · obtain ⟨_, _, hbo, f0⟩ := sl_addr (HNV.out.grown hgk hne) (wcs_get hly)
        cases hbo
        have hY := HV.out.get hly
        have HWD := Lib.hid (wd_get hly)
        generalize L[i + k] = X at *
        rw [Nat.add_comm i k] at o0 o1
        generalize (digs V)[k] = Y at *
        rw [B_eq] at hX hY
        obtain ⟨hm2, hm3⟩ := nmul_le hn hY
        have HM := Lib.hid (Int.natCast_mul n Y)
        by_cases hcX : X < n * Y + c
        · have HR := Lib.hid ((H3.out (X + 1000000000 * ((n * Y + c - X + 999999999) / 1000000000) - (n * Y + c)) Y ((n * Y + c - X + 999999999) / 1000000000)).out HWD.out (by rw [B_eq]; omega))
          have HD3 := H1.out (X + 1000000000 * ((n * Y + c - X + 999999999) / 1000000000) - (n * Y + c))
          have HD4 := H2.out (X + 1000000000 * ((n * Y + c - X + 999999999) / 1000000000) - (n * Y + c))
          have hcI : (X : Int) - (c : Int) - (n : Int) * (Y : Int) < 0 := by have hmm := HM.out; omega
          have HCx := Lib.hid hcX
          clear H1 H2 H3 hcX
          go_wp2
          go_roundw
          case rel => exact ⟨k + 1, (n * Y + c - X + 999999999) / 1000000000, S.set (i + k) (X + 1000000000 * ((n * Y + c - X + 999999999) / 1000000000) - (n * Y + c)), by omega, by go_num, (by refine congrArg (Value.int .i64) ?_; have hmm := HM.out; have hcc := HCx.out; omega), by have hmm := HM.out; omega, Hid.len_set HSl _ _, Hid.dg_set HSd _ (by have := HCx.out; rw [B_eq]; omega), HD4, HD3, HR, (by rw [Nat.add_comm k i]; exact hOk.set' HKO.out _ (by have hcc := HCx.out; have hmm := HM.out; omega)), only_setCell hgk _⟩
          case measure => simp [intOf] <;> omega
        · have HR := Lib.hid ((H3.out (X - (n * Y + c)) Y 0).out HWD.out (by rw [B_eq]; omega))
          have HD3 := H1.out (X - (n * Y + c))
          have HD4 := H2.out (X - (n * Y + c))
          have hcI : 0 ≤ (X : Int) - (c : Int) - (n : Int) * (Y : Int) := by have hmm := HM.out; omega
          have HCx := Lib.hid hcX
          clear H1 H2 H3 hcX
          go_wp2
          go_roundw
          case rel => exact ⟨k + 1, 0, S.set (i + k) (X - (n * Y + c)), by omega, by go_num, by go_num, by omega, Hid.len_set HSl _ _, Hid.dg_set HSd _ (by have := HCx.out; rw [B_eq]; omega), HD4, HD3, HR, (by rw [Nat.add_comm k i]; exact hOk.set' HKO.out _ (by have hcc := HCx.out; have hmm := HM.out; omega)), only_setCell hgk _⟩
          case measure => simp [intOf] <;> omega
      · have HWD := Lib.hid (wd_past (l := digs V) (k := k) (by omega))
        generalize L[i + k] = X at *
        rw [Nat.add_comm i k] at o0 o1
        rw [B_eq] at hX
        by_cases hcX : X < c
        · have HR := Lib.hid ((H3.out (X + 1000000000 * ((c - X + 999999999) / 1000000000) - c) 0 ((c - X + 999999999) / 1000000000)).out HWD.out (by rw [B_eq]; omega))
          have HD3 := H1.out (X + 1000000000 * ((c - X + 999999999) / 1000000000) - c)
          have HD4 := H2.out (X + 1000000000 * ((c - X + 999999999) / 1000000000) - c)
          have HCx := Lib.hid hcX
          clear H1 H2 H3
          go_wp2
          go_roundw
          case rel => exact ⟨k + 1, (c - X + 999999999) / 1000000000, S.set (i + k) (X + 1000000000 * ((c - X + 999999999) / 1000000000) - c), by omega, by go_num, (by refine congrArg (Value.int .i64) ?_; omega), by omega, Hid.len_set HSl _ _, Hid.dg_set HSd _ (by rw [B_eq]; omega), HD4, HD3, HR, (by rw [Nat.add_comm k i]; exact hOk.set' HKO.out _ (by omega)), only_setCell hgk _⟩
          case measure => simp [intOf] <;> omega
        · have HR := Lib.hid ((H3.out (X - c) 0 0).out HWD.out (by rw [B_eq]; omega))
          have HD3 := H1.out (X - c)
          have HD4 := H2.out (X - c)
          clear H1 H2 H3
          go_wp2
          go_roundw
          case rel => exact ⟨k + 1, 0, S.set (i + k) (X - c), by omega, by go_num, by go_num, by omega, Hid.len_set HSl _ _, Hid.dg_set HSd _ (by rw [B_eq]; omega), HD4, HD3, HR, (by rw [Nat.add_comm k i]; exact hOk.set' HKO.out _ (by omega)), only_setCell hgk _⟩
          case measure => simp [intOf] <;> omega
    · obtain rfl : k = (digs V).length + 1 := by omega
      have HI2 : Hid (val (seg S i ((digs V).length + 1)) + n * V = val (seg L i ((digs V).length + 1)) + B ^ ((digs V).length + 1) * c) := by
        have h1 := HI.out
        rw [List.take_of_length_le (by omega), val_digs] at h1
        exact h1
      have HLT := Lib.hid (seg_lt HSd.out i ((digs V).length + 1))
      have HC : Hid (c ≤ 1) := by
        have : c ≤ 1 := by
          have h1 := HI2.out
          have h2 := HLT.out
          have h3 : n * V ≤ 1000000000 * V := Nat.mul_le_mul_right _ hn
          have h4 : V < B ^ (digs V).length := HVB.out
          have h5 : B ^ ((digs V).length + 1) = B ^ (digs V).length * B := Nat.pow_succ _ _
          rcases Nat.lt_or_ge c 2 with h | h
          · omega
          · have h6 : B ^ ((digs V).length + 1) * 2 ≤ B ^ ((digs V).length + 1) * c := Nat.mul_le_mul_left _ h
            rw [B_eq] at h5
            rw [B_eq] at *
            omega
        exact this
      have HB : Hid (c = 1 ↔ val (seg L i ((digs V).length + 1)) < n * V) := by
        have h1 := HI2.out
        have h2 := HLT.out
        have h3 := HC.out
        have : c = 1 ↔ val (seg L i ((digs V).length + 1)) < n * V := by
          obtain rfl | rfl : c = 0 ∨ c = 1 := by omega
          · rw [Nat.mul_zero] at h1; omega
          · rw [Nat.mul_one] at h1; omega
        exact this
      clear HI
      go_wp2
      go_ret
      refine ⟨S, c, HC.out, ?_, HSl.out, HSd.out, HSt.out, HSr.out, HI2.out, HB.out, hOk, hgk⟩
      refine congrArg (fun q => Ending.returned (.bool q)) ?_
      refine decide_eq_decide.2 ?_
      rw [← HB.out]
      have := HC.out
      constructor <;> intro _ <;> omega
set_option maxRecDepth 100000 in
set_option maxHeartbeats 16000000 in
theorem give_at (L : List Nat) (hL : Dg L) (b i cx V b2 o2 c2 : Nat) (w : World) (hO : Own w b L) (hv : N w (.slice (some ⟨b2, o2, none⟩) (wlen V) c2) V) (hne : b2 ≠ b) (hit : i + wlen V + 1 ≤ L.length) (hLl : L.length ≤ 2000000000) (hcx : L.length ≤ cx) (hcx2 : cx ≤ maxLen) (hc2 : wlen V ≤ c2) (hc3 : c2 ≤ maxLen) :
    Calls Tryz.prog 186 #[.slice (some ⟨b, 0, none⟩) L.length cx, .slice (some ⟨b2, o2, none⟩) (wlen V) c2, .int .i64 (i : Int)] w (BackPost w b L i (wlen V + 1) V) := by
  have HV := Lib.hid (digs_dg V)
  have HL := Lib.hid hL
  have HNV := Lib.hid hv
  unfold maxLen at hcx2 hc3
  unfold wlen at hit hc2 ⊢
  clear hL hv
  have HZ : Hid (val (seg L i 0) + B ^ 0 * 0 = val (seg L i 0) + val ((digs V).take 0)) := by
    have : val (seg L i 0) + B ^ 0 * 0 = val (seg L i 0) + val ((digs V).take 0) := by simp [val]
    exact this
  go_enter Tryz.func186, Tryz.ntmps186
  go_wp2
  go_loopw [6, 7] (fun cv iv wr => ∃ (k cr : Nat) (S : List Nat), k ≤ (digs V).length + 1 ∧ iv = .int .i64 k ∧ cv = .int .i64 cr ∧ cr ≤ 1 ∧ Hid (S.length = L.length) ∧ Hid (Dg S) ∧ Hid (S.take i = L.take i) ∧ Hid (S.drop (i + k) = L.drop (i + k)) ∧ Hid (val (seg S i k) + B ^ k * cr = val (seg L i k) + val ((digs V).take k)) ∧ Own wr b S ∧ w.grownBy wr (some b)) (fun _ iv _ => (digs V).length + 1 - (intOf iv).toNat)
  case atStart => exact ⟨0, 0, L, by omega, rfl, rfl, by omega, Lib.hid rfl, HL, Lib.hid rfl, Lib.hid rfl, HZ, hO, World.grownBy.refl w _⟩
  case round =>
    obtain ⟨k, cr, S, hk, rfl, rfl, hcr, HSl, HSd, HSt, HSr, HI, hOk, hgk⟩ := hrel
    by_cases hlt : k ≤ (digs V).length
    · have hko : i + k < S.length := by have := HSl.out; omega
      have hkl : i + k < L.length := by omega
      have o0 := hOk.cell hko
      have o1 := hOk.frozen (i + k)
      have hX := HL.out.get hkl
      obtain ⟨hXe, hSr2⟩ := drop_get HSr.out hko hkl
      have HSr2 : ∀ z, Hid ((S.set (i + k) z).drop (i + (k + 1)) = L.drop (i + (k + 1))) := fun z => by
        have : (S.set (i + k) z).drop (i + (k + 1)) = L.drop (i + (k + 1)) := by rw [List.drop_set_of_lt (by omega)]; exact hSr2
        exact this
      have HSt2 : ∀ z, Hid ((S.set (i + k) z).take i = L.take i) := fun z => by
        have : (S.set (i + k) z).take i = L.take i := by rw [take_set_ge]; exact HSt.out
        exact this
      have HST : ∀ vk, Hid (wd (digs V) k = vk → val (seg (S.set (i + k) ((cr + L[i + k] + vk) % 1000000000)) i (k + 1)) + B ^ (k + 1) * ((cr + L[i + k] + vk) / 1000000000) = val (seg L i (k + 1)) + val ((digs V).take (k + 1))) := fun vk => by
        have : wd (digs V) k = vk → val (seg (S.set (i + k) ((cr + L[i + k] + vk) % 1000000000)) i (k + 1)) + B ^ (k + 1) * ((cr + L[i + k] + vk) / 1000000000) = val (seg L i (k + 1)) + val ((digs V).take (k + 1)) := fun hY => by
          rw [seg_set S hko, seg_succ L hkl, val_take_wd, hY, Nat.pow_succ]
          exact add_step HI.out
        exact this
      rw [hXe] at o0
      have hki : ((k + i : Nat) : Int) < (L.length : Int) := by omega
      have HKO := Lib.hid hko
      have H1 := Lib.hid HSr2
      have H2 := Lib.hid HSt2
      have H3 := Lib.hid HST
      clear HST HSt2 HSr2 hSr2 hXe HI HSr HSt hko
      by_cases hly : k < (digs V).length
      · obtain ⟨_, _, hbo, f0⟩ := sl_addr (HNV.out.grown hgk hne) (wcs_get hly)
        cases hbo
        have hY := HV.out.get hly
        have HWD := Lib.hid (wd_get hly)
        generalize L[i + k] = X at *
        rw [Nat.add_comm i k] at o0 o1
        generalize (digs V)[k] = Y at *
        rw [B_eq] at hX hY
        have HR := Lib.hid ((H3.out Y).out HWD.out)
        have HD3 := H1.out ((cr + X + Y) % 1000000000)
        have HD4 := H2.out ((cr + X + Y) % 1000000000)
        clear H1 H2 H3
        go_wp2
        go_roundw
        case rel => exact ⟨k + 1, (cr + X + Y) / 1000000000, S.set (i + k) ((cr + X + Y) % 1000000000), by omega, by go_num, by go_num, by omega, Hid.len_set HSl _ _, Hid.dg_set HSd _ (by rw [B_eq]; omega), HD4, HD3, HR, (by rw [Nat.add_comm k i]; exact hOk.set' HKO.out _ (by omega)), only_setCell hgk _⟩
        case measure => simp [intOf] <;> omega
      · have HWD := Lib.hid (wd_past (l := digs V) (k := k) (by omega))
        generalize L[i + k] = X at *
        rw [Nat.add_comm i k] at o0 o1
        rw [B_eq] at hX
        have HR : Hid (val (seg (S.set (i + k) ((cr + X) % 1000000000)) i (k + 1)) + B ^ (k + 1) * ((cr + X) / 1000000000) = val (seg L i (k + 1)) + val ((digs V).take (k + 1))) := by
          have := (H3.out 0).out HWD.out
          rw [Nat.add_zero] at this
          exact this
        have HD3 := H1.out ((cr + X) % 1000000000)
        have HD4 := H2.out ((cr + X) % 1000000000)
        clear H1 H2 H3
        go_wp2
        go_roundw
        case rel => exact ⟨k + 1, (cr + X) / 1000000000, S.set (i + k) ((cr + X) % 1000000000), by omega, by go_num, by go_num, by omega, Hid.len_set HSl _ _, Hid.dg_set HSd _ (by rw [B_eq]; omega), HD4, HD3, HR, (by rw [Nat.add_comm k i]; exact hOk.set' HKO.out _ (by omega)), only_setCell hgk _⟩
        case measure => simp [intOf] <;> omega
    · obtain rfl : k = (digs V).length + 1 := by omega
      have HI2 : Hid (val (seg S i ((digs V).length + 1)) + B ^ ((digs V).length + 1) * cr = val (seg L i ((digs V).length + 1)) + V) := by
        have h1 := HI.out
        rw [List.take_of_length_le (by omega), val_digs] at h1
        exact h1
      clear HI
      go_wp2
      go_end0
      exact ⟨S, cr, hcr, rfl, HSl.out, HSd.out, HSt.out, HSr.out, HI2.out, hOk, hgk⟩
end Nt
end Go.Proofs.YtmnmepbljegjeaaGreatDoor
