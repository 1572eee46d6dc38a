/- take, give, guess of the reference's natural numbers. guess of the reference's natural numbers. -/
import Derived.Test.YtemenlcigengeaaGreatDoorTq25
namespace Go.Proofs.YtemenlcigengeaaGreatDoor
open Go.RowKit
namespace Nt
theorem sub_step {V A C P X Y z c c' : Nat} (h : V + C = A + P * c) (hz : z + Y + c = X + B * c') : (V + P * z) + (C + P * Y) = (A + P * X) + P * B * c' := minus_step h hz
theorem only_setCell {a w : World} {g : Nat} (h : a.grownBy w (some g)) {i : Nat} (u : Value) : a.grownBy (w.setCell ⟨g, i, none⟩ u) (some g) :=
  ⟨h.os, h.tape, h.output, by simpa [World.setCell] using h.size, fun j hj hne => (Below.heap_setCell w ⟨g, i, none⟩ u j (by
    rintro rfl; exact hne rfl)).trans (h.block j hj hne)⟩
theorem N.grown {w w' : World} {b b2 o2 c2 n : Nat} (h : N w (.slice (some ⟨b2, o2, none⟩) (wlen n) c2) n) (hg : w.grownBy w' (some b)) (hne : b2 ≠ b) : N w' (.slice (some ⟨b2, o2, none⟩) (wlen n) c2) n := by
  obtain ⟨a, cap, hv, h1, h2, h0, h3⟩ := h
  cases hv
  refine ⟨_, c2, rfl, h1, h2, h0, fun i x hx => ?_⟩
  obtain ⟨b', o', ha, hc⟩ := h3 i x hx
  cases ha
  exact ⟨b2, o2, rfl, (World.cell?_of_block (hg.block b2 (World.block_lt_of_cell? w _ hc) (fun e => by cases e; exact hne rfl))).trans hc⟩
theorem drop_set_ge (l : List Nat) (i k z : Nat) : (l.set (i + k) z).drop i = (l.drop i).set k z := by
  rw [List.drop_set, if_neg (by omega)]; congr 1; omega
theorem take_set_ge (l : List Nat) (i k z : Nat) : (l.set (i + k) z).take i = l.take i := by
  rw [List.take_set_of_le (by omega)]
/-- the part of t words from i on -/
def seg (l : List Nat) (i t : Nat) : List Nat := (l.drop i).take t
theorem seg_set (l : List Nat) {i k : Nat} (h : i + k < l.length) (z : Nat) : val (seg (l.set (i + k) z) i (k + 1)) = val (seg l i k) + B ^ k * z := by
  unfold seg; rw [drop_set_ge, val_take_set _ _ _ (by rw [List.length_drop]; omega)]
theorem seg_succ (l : List Nat) {i k : Nat} (h : i + k < l.length) : val (seg l i (k + 1)) = val (seg l i k) + B ^ k * l[i + k] := by
  unfold seg; rw [val_take_succ _ _ (by rw [List.length_drop]; omega)]; simp
theorem seg_lt {l : List Nat} (h : Dg l) (i t : Nat) : val (seg l i t) < B ^ t := by
  have := val_lt ((h.drop i).take t)
  refine Nat.lt_of_lt_of_le this (Nat.pow_le_pow_right B_pos ?_)
  rw [List.length_take]; omega
theorem drop_get {l m : List Nat} {k : Nat} (h : l.drop k = m.drop k) (h1 : k < l.length) (h2 : k < m.length) : l[k] = m[k] ∧ l.drop (k + 1) = m.drop (k + 1) := by
  rw [List.drop_eq_getElem_cons h1, List.drop_eq_getElem_cons h2] at h
  exact List.cons.inj h
def TakePost (w : World) (b : Nat) (L : List Nat) (i t V n : Nat) (e : Ending) (w' : World) : Prop :=
  ∃ (L' : List Nat) (br : Nat), br ≤ 1 ∧ e = .returned (.bool (decide (val (seg L i t) < n * V))) ∧ L'.length = L.length ∧ Dg L' ∧ L'.take i = L.take i ∧ L'.drop (i + t) = L.drop (i + t) ∧ val (seg L' i t) + n * V = val (seg L i t) + B ^ t * br ∧ (br = 1 ↔ val (seg L i t) < n * V) ∧ Own w' b L' ∧ w.grownBy w' (some b)
def BackPost (w : World) (b : Nat) (L : List Nat) (i t V : Nat) (e : Ending) (w' : World) : Prop :=
  ∃ (L' : List Nat) (br : Nat), br ≤ 1 ∧ e = .returned (.tuple #[]) ∧ L'.length = L.length ∧ Dg L' ∧ L'.take i = L.take i ∧ L'.drop (i + t) = L.drop (i + t) ∧ val (seg L' i t) + B ^ t * br = val (seg L i t) + V ∧ Own w' b L' ∧ w.grownBy w' (some b)
theorem take_step {P V A n Vk c c' X vk z : Nat} (h : V + n * Vk = A + P * c) (hz : z + n * vk + c = X + B * c') : (V + P * z) + n * (Vk + P * vk) = (A + P * X) + P * B * c' := by
  have := sub_step (Y := n * vk) h hz
  rw [Nat.mul_add, show n * (P * vk) = P * (n * vk) by ac_rfl]
  exact this
theorem nmul_le {n v : Nat} (hn : n ≤ 1000000000) (hv : v < 1000000000) : 0 ≤ (n : Int) * (v : Int) ∧ (n : Int) * (v : Int) ≤ 999999999000000000 := by
  have h : n * v ≤ 1000000000 * 999999999 := Nat.mul_le_mul hn (by omega)
  have h2 : ((n * v : Nat) : Int) = (n : Int) * (v : Int) := Int.natCast_mul _ _
  omega
set_option maxRecDepth 100000 in
set_option maxHeartbeats 16000000 in
theorem take_at (L : List Nat) (hL : Dg L) (b i cx V n b2 o2 c2 : Nat) (w : World) (hO : Own w b L) (hv : N w (.slice (some ⟨b2, o2, none⟩) (wlen V) c2) V) (hne : b2 ≠ b) (hit : i + wlen V + 1 ≤ L.length) (hLl : L.length ≤ 2000000000) (_hcx : L.length ≤ cx) (_hcx2 : cx ≤ maxLen) (hc2 : wlen V ≤ c2) (hc3 : c2 ≤ maxLen) (hn : n ≤ 1000000000) :
    Calls Tryz.prog 135 #[.slice (some ⟨b, 0, none⟩) L.length cx, .slice (some ⟨b2, o2, none⟩) (wlen V) c2, .int .i64 (i : Int), .int .i64 (n : Int)] w (TakePost w b L i (wlen V + 1) V n) := by
  have HV := Lib.hid (digs_dg V)
  have HL := Lib.hid hL
  have HNV := Lib.hid hv
  have HVB := Lib.hid (lt_pow_wlen V)
  unfold maxLen at _hcx2 hc3
  unfold wlen at hit hc2 ⊢
  clear hL hv
  have HZ : Hid (val (seg L i 0) + n * val ((digs V).take 0) = val (seg L i 0) + B ^ 0 * 0) := by
    have : val (seg L i 0) + n * val ((digs V).take 0) = val (seg L i 0) + B ^ 0 * 0 := by simp [val]
    exact this
  go_enter Tryz.func135, Tryz.ntmps135
  go_wp2
  go_loopw [9, 10] (fun bv iv wr => ∃ (k c : Nat) (S : List Nat), k ≤ (digs V).length + 1 ∧ iv = .int .i64 k ∧ bv = .int .i64 c ∧ c ≤ 1000000000 ∧ Hid (S.length = L.length) ∧ Hid (Dg S) ∧ Hid (S.take i = L.take i) ∧ Hid (S.drop (i + k) = L.drop (i + k)) ∧ Hid (val (seg S i k) + n * val ((digs V).take k) = val (seg L i k) + B ^ k * c) ∧ Own wr b S ∧ w.grownBy wr (some b)) (fun _ iv _ => (digs V).length + 1 - (intOf iv).toNat)
  case atStart => exact ⟨0, 0, L, by omega, rfl, rfl, by omega, Lib.hid rfl, HL, Lib.hid rfl, Lib.hid rfl, HZ, hO, World.grownBy.refl w _⟩
  case round =>
    obtain ⟨k, c, S, hk, rfl, rfl, hc, HSl, HSd, HSt, HSr, HI, hOk, hgk⟩ := hrel
    by_cases hlt : k ≤ (digs V).length
    · have hko : i + k < S.length := by have := HSl.out; omega
      have hkl : i + k < L.length := by omega
      have o0 := hOk.cell hko
      have o1 := hOk.frozen (i + k)
      have hX := HL.out.get hkl
      obtain ⟨hXe, hSr2⟩ := drop_get HSr.out hko hkl
      have HSr2 : ∀ z, Hid ((S.set (i + k) z).drop (i + (k + 1)) = L.drop (i + (k + 1))) := fun z => by
        have : (S.set (i + k) z).drop (i + (k + 1)) = L.drop (i + (k + 1)) := by rw [List.drop_set_of_lt (by omega)]; exact hSr2
        exact this
      have HSt2 : ∀ z, Hid ((S.set (i + k) z).take i = L.take i) := fun z => by
        have : (S.set (i + k) z).take i = L.take i := by rw [take_set_ge]; exact HSt.out
        exact this
      have HST : ∀ z vk c', Hid (wd (digs V) k = vk → z + n * vk + c = L[i + k] + B * c' → val (seg (S.set (i + k) z) i (k + 1)) + n * val ((digs V).take (k + 1)) = val (seg L i (k + 1)) + B ^ (k + 1) * c') := fun z vk c' => by
        have : wd (digs V) k = vk → z + n * vk + c = L[i + k] + B * c' → val (seg (S.set (i + k) z) i (k + 1)) + n * val ((digs V).take (k + 1)) = val (seg L i (k + 1)) + B ^ (k + 1) * c' := fun hY hz => by
          rw [seg_set S hko, seg_succ L hkl, val_take_wd, hY, Nat.pow_succ]
          exact take_step HI.out hz
        exact this
      rw [hXe] at o0
      have hki : ((k + i : Nat) : Int) < (L.length : Int) := by omega
      have HKO := Lib.hid hko
      have H1 := Lib.hid HSr2
      have H2 := Lib.hid HSt2
      have H3 := Lib.hid HST
      clear HST HSt2 HSr2 hSr2 hXe HI HSr HSt hko
      by_cases hly : k < (digs V).length
      · obtain ⟨_, _, hbo, f0⟩ := sl_addr (HNV.out.grown hgk hne) (wcs_get hly)
        cases hbo
        have hY := HV.out.get hly
        have HWD := Lib.hid (wd_get hly)
        generalize L[i + k] = X at *
        rw [Nat.add_comm i k] at o0 o1
        generalize (digs V)[k] = Y at *
        rw [B_eq] at hX hY
        obtain ⟨hm2, hm3⟩ := nmul_le hn hY
        have HM := Lib.hid (Int.natCast_mul n Y)
        by_cases hcX : X < n * Y + c
        · have HR := Lib.hid ((H3.out (X + 1000000000 * ((n * Y + c - X + 999999999) / 1000000000) - (n * Y + c)) Y ((n * Y + c - X + 999999999) / 1000000000)).out HWD.out (by rw [B_eq]; omega))
          have HD3 := H1.out (X + 1000000000 * ((n * Y + c - X + 999999999) / 1000000000) - (n * Y + c))
          have HD4 := H2.out (X + 1000000000 * ((n * Y + c - X + 999999999) / 1000000000) - (n * Y + c))
          have hcI : (X : Int) - (c : Int) - (n : Int) * (Y : Int) < 0 := by have hmm := HM.out; omega
          have HCx := Lib.hid hcX
          clear H1 H2 H3 hcX
          go_wp2
          go_roundw
          case rel => exact ⟨k + 1, (n * Y + c - X + 999999999) / 1000000000, S.set (i + k) (X + 1000000000 * ((n * Y + c - X + 999999999) / 1000000000) - (n * Y + c)), by omega, by go_num, (by refine congrArg (Value.int .i64) ?_; have hmm := HM.out; have hcc := HCx.out; omega), by have hmm := HM.out; omega, Hid.len_set HSl _ _, Hid.dg_set HSd _ (by have := HCx.out; rw [B_eq]; omega), HD4, HD3, HR, (by rw [Nat.add_comm k i]; exact hOk.set' HKO.out _ (by have hcc := HCx.out; have hmm := HM.out; omega)), only_setCell hgk _⟩
          case measure => simp [intOf] <;> omega
        · have HR := Lib.hid ((H3.out (X - (n * Y + c)) Y 0).out HWD.out (by rw [B_eq]; omega))
          have HD3 := H1.out (X - (n * Y + c))
          have HD4 := H2.out (X - (n * Y + c))
          have hcI : 0 ≤ (X : Int) - (c : Int) - (n : Int) * (Y : Int) := by have hmm := HM.out; omega
          have HCx := Lib.hid hcX
          clear H1 H2 H3 hcX
          go_wp2
          go_roundw
          case rel => exact ⟨k + 1, 0, S.set (i + k) (X - (n * Y + c)), by omega, by go_num, by go_num, by omega, Hid.len_set HSl _ _, Hid.dg_set HSd _ (by have := HCx.out; rw [B_eq]; omega), HD4, HD3, HR, (by rw [Nat.add_comm k i]; exact hOk.set' HKO.out _ (by have hcc := HCx.out; have hmm := HM.out; omega)), only_setCell hgk _⟩
          case measure => simp [intOf] <;> omega
      · have HWD := Lib.hid (wd_past (l := digs V) (k := k) (by omega))
        generalize L[i + k] = X at *
        rw [Nat.add_comm i k] at o0 o1
        rw [B_eq] at hX
        by_cases hcX : X < c
        · have HR := Lib.hid ((H3.out (X + 1000000000 * ((c - X + 999999999) / 1000000000) - c) 0 ((c - X + 999999999) / 1000000000)).out HWD.out (by rw [B_eq]; omega))
          have HD3 := H1.out (X + 1000000000 * ((c - X + 999999999) / 1000000000) - c)
          have HD4 := H2.out (X + 1000000000 * ((c - X + 999999999) / 1000000000) - c)
          have HCx := Lib.hid hcX
          clear H1 H2 H3
          go_wp2
          go_roundw
          case rel => exact ⟨k + 1, (c - X + 999999999) / 1000000000, S.set (i + k) (X + 1000000000 * ((c - X + 999999999) / 1000000000) - c), by omega, by go_num, (by refine congrArg (Value.int .i64) ?_; omega), by omega, Hid.len_set HSl _ _, Hid.dg_set HSd _ (by rw [B_eq]; omega), HD4, HD3, HR, (by rw [Nat.add_comm k i]; exact hOk.set' HKO.out _ (by omega)), only_setCell hgk _⟩
          case measure => simp [intOf] <;> omega
        · have HR := Lib.hid ((H3.out (X - c) 0 0).out HWD.out (by rw [B_eq]; omega))
          have HD3 := H1.out (X - c)
          have HD4 := H2.out (X - c)
          clear H1 H2 H3
          go_wp2
          go_roundw
          case rel => exact ⟨k + 1, 0, S.set (i + k) (X - c), by omega, by go_num, by go_num, by omega, Hid.len_set HSl _ _, Hid.dg_set HSd _ (by rw [B_eq]; omega), HD4, HD3, HR, (by rw [Nat.add_comm k i]; exact hOk.set' HKO.out _ (by omega)), only_setCell hgk _⟩
          case measure => simp [intOf] <;> omega
    · obtain rfl : k = (digs V).length + 1 := by omega
      have HI2 : Hid (val (seg S i ((digs V).length + 1)) + n * V = val (seg L i ((digs V).length + 1)) + B ^ ((digs V).length + 1) * c) := by
        have h1 := HI.out
        rw [List.take_of_length_le (by omega), val_digs] at h1
        exact h1
      have HLT := Lib.hid (seg_lt HSd.out i ((digs V).length + 1))
      have HC : Hid (c ≤ 1) := by
        have : c ≤ 1 := by
          have h1 := HI2.out
          have h2 := HLT.out
          have h3 : n * V ≤ 1000000000 * V := Nat.mul_le_mul_right _ hn
          have h4 : V < B ^ (digs V).length := HVB.out
          have h5 : B ^ ((digs V).length + 1) = B ^ (digs V).length * B := Nat.pow_succ _ _
          rcases Nat.lt_or_ge c 2 with h | h
          · omega
          · have h6 : B ^ ((digs V).length + 1) * 2 ≤ B ^ ((digs V).length + 1) * c := Nat.mul_le_mul_left _ h
            rw [B_eq] at h5
            rw [B_eq] at *
            omega
        exact this
      have HB : Hid (c = 1 ↔ val (seg L i ((digs V).length + 1)) < n * V) := by
        have h1 := HI2.out
        have h2 := HLT.out
        have h3 := HC.out
        have : c = 1 ↔ val (seg L i ((digs V).length + 1)) < n * V := by
          obtain rfl | rfl : c = 0 ∨ c = 1 := by omega
          · rw [Nat.mul_zero] at h1; omega
          · rw [Nat.mul_one] at h1; omega
        exact this
      clear HI
      go_wp2
      go_ret
      refine ⟨S, c, HC.out, ?_, HSl.out, HSd.out, HSt.out, HSr.out, HI2.out, HB.out, hOk, hgk⟩
      refine congrArg (fun q => Ending.returned (.bool q)) ?_
      refine decide_eq_decide.2 ?_
      rw [← HB.out]
      have := HC.out
      constructor <;> intro _ <;> omega
set_option maxRecDepth 100000 in
set_option maxHeartbeats 16000000 in
theorem give_at (L : List Nat) (hL : Dg L) (b i cx V b2 o2 c2 : Nat) (w : World) (hO : Own w b L) (hv : N w (.slice (some ⟨b2, o2, none⟩) (wlen V) c2) V) (hne : b2 ≠ b) (hit : i + wlen V + 1 ≤ L.length) (hLl : L.length ≤ 2000000000) (_hcx : L.length ≤ cx) (_hcx2 : cx ≤ maxLen) (hc2 : wlen V ≤ c2) (hc3 : c2 ≤ maxLen) :
    Calls Tryz.prog 136 #[.slice (some ⟨b, 0, none⟩) L.length cx, .slice (some ⟨b2, o2, none⟩) (wlen V) c2, .int .i64 (i : Int)] w (BackPost w b L i (wlen V + 1) V) := by
  have HV := Lib.hid (digs_dg V)
  have HL := Lib.hid hL
  have HNV := Lib.hid hv
  unfold maxLen at _hcx2 hc3
  unfold wlen at hit hc2 ⊢
  clear hL hv
  have HZ : Hid (val (seg L i 0) + B ^ 0 * 0 = val (seg L i 0) + val ((digs V).take 0)) := by
    have : val (seg L i 0) + B ^ 0 * 0 = val (seg L i 0) + val ((digs V).take 0) := by simp [val]
    exact this
  go_enter Tryz.func136, Tryz.ntmps136
  go_wp2
  go_loopw [6, 7] (fun cv iv wr => ∃ (k cr : Nat) (S : List Nat), k ≤ (digs V).length + 1 ∧ iv = .int .i64 k ∧ cv = .int .i64 cr ∧ cr ≤ 1 ∧ Hid (S.length = L.length) ∧ Hid (Dg S) ∧ Hid (S.take i = L.take i) ∧ Hid (S.drop (i + k) = L.drop (i + k)) ∧ Hid (val (seg S i k) + B ^ k * cr = val (seg L i k) + val ((digs V).take k)) ∧ Own wr b S ∧ w.grownBy wr (some b)) (fun _ iv _ => (digs V).length + 1 - (intOf iv).toNat)
  case atStart => exact ⟨0, 0, L, by omega, rfl, rfl, by omega, Lib.hid rfl, HL, Lib.hid rfl, Lib.hid rfl, HZ, hO, World.grownBy.refl w _⟩
  case round =>
    obtain ⟨k, cr, S, hk, rfl, rfl, hcr, HSl, HSd, HSt, HSr, HI, hOk, hgk⟩ := hrel
    by_cases hlt : k ≤ (digs V).length
    · have hko : i + k < S.length := by have := HSl.out; omega
      have hkl : i + k < L.length := by omega
      have o0 := hOk.cell hko
      have o1 := hOk.frozen (i + k)
      have hX := HL.out.get hkl
      obtain ⟨hXe, hSr2⟩ := drop_get HSr.out hko hkl
      have HSr2 : ∀ z, Hid ((S.set (i + k) z).drop (i + (k + 1)) = L.drop (i + (k + 1))) := fun z => by
        have : (S.set (i + k) z).drop (i + (k + 1)) = L.drop (i + (k + 1)) := by rw [List.drop_set_of_lt (by omega)]; exact hSr2
        exact this
      have HSt2 : ∀ z, Hid ((S.set (i + k) z).take i = L.take i) := fun z => by
        have : (S.set (i + k) z).take i = L.take i := by rw [take_set_ge]; exact HSt.out
        exact this
      have HST : ∀ vk, Hid (wd (digs V) k = vk → val (seg (S.set (i + k) ((cr + L[i + k] + vk) % 1000000000)) i (k + 1)) + B ^ (k + 1) * ((cr + L[i + k] + vk) / 1000000000) = val (seg L i (k + 1)) + val ((digs V).take (k + 1))) := fun vk => by
        have : wd (digs V) k = vk → val (seg (S.set (i + k) ((cr + L[i + k] + vk) % 1000000000)) i (k + 1)) + B ^ (k + 1) * ((cr + L[i + k] + vk) / 1000000000) = val (seg L i (k + 1)) + val ((digs V).take (k + 1)) := fun hY => by
          rw [seg_set S hko, seg_succ L hkl, val_take_wd, hY, Nat.pow_succ]
          exact add_step HI.out
        exact this
      rw [hXe] at o0
      have hki : ((k + i : Nat) : Int) < (L.length : Int) := by omega
      have HKO := Lib.hid hko
      have H1 := Lib.hid HSr2
      have H2 := Lib.hid HSt2
      have H3 := Lib.hid HST
      clear HST HSt2 HSr2 hSr2 hXe HI HSr HSt hko
      by_cases hly : k < (digs V).length
      · obtain ⟨_, _, hbo, f0⟩ := sl_addr (HNV.out.grown hgk hne) (wcs_get hly)
        cases hbo
        have hY := HV.out.get hly
        have HWD := Lib.hid (wd_get hly)
        generalize L[i + k] = X at *
        rw [Nat.add_comm i k] at o0 o1
        generalize (digs V)[k] = Y at *
        rw [B_eq] at hX hY
        have HR := Lib.hid ((H3.out Y).out HWD.out)
        have HD3 := H1.out ((cr + X + Y) % 1000000000)
        have HD4 := H2.out ((cr + X + Y) % 1000000000)
        clear H1 H2 H3
        go_wp2
        go_roundw
        case rel => exact ⟨k + 1, (cr + X + Y) / 1000000000, S.set (i + k) ((cr + X + Y) % 1000000000), by omega, by go_num, by go_num, by omega, Hid.len_set HSl _ _, Hid.dg_set HSd _ (by rw [B_eq]; omega), HD4, HD3, HR, (by rw [Nat.add_comm k i]; exact hOk.set' HKO.out _ (by omega)), only_setCell hgk _⟩
        case measure => simp [intOf] <;> omega
      · have HWD := Lib.hid (wd_past (l := digs V) (k := k) (by omega))
        generalize L[i + k] = X at *
        rw [Nat.add_comm i k] at o0 o1
        rw [B_eq] at hX
        have HR : Hid (val (seg (S.set (i + k) ((cr + X) % 1000000000)) i (k + 1)) + B ^ (k + 1) * ((cr + X) / 1000000000) = val (seg L i (k + 1)) + val ((digs V).take (k + 1))) := by
          have := (H3.out 0).out HWD.out
          rw [Nat.add_zero] at this
          exact this
        have HD3 := H1.out ((cr + X) % 1000000000)
        have HD4 := H2.out ((cr + X) % 1000000000)
        clear H1 H2 H3
        go_wp2
        go_roundw
        case rel => exact ⟨k + 1, (cr + X) / 1000000000, S.set (i + k) ((cr + X) % 1000000000), by omega, by go_num, by go_num, by omega, Hid.len_set HSl _ _, Hid.dg_set HSd _ (by rw [B_eq]; omega), HD4, HD3, HR, (by rw [Nat.add_comm k i]; exact hOk.set' HKO.out _ (by omega)), only_setCell hgk _⟩
        case measure => simp [intOf] <;> omega
    · obtain rfl : k = (digs V).length + 1 := by omega
      have HI2 : Hid (val (seg S i ((digs V).length + 1)) + B ^ ((digs V).length + 1) * cr = val (seg L i ((digs V).length + 1)) + V) := by
        have h1 := HI.out
        rw [List.take_of_length_le (by omega), val_digs] at h1
        exact h1
      clear HI
      go_wp2
      go_end0
      exact ⟨S, cr, hcr, rfl, HSl.out, HSd.out, HSt.out, HSr.out, HI2.out, hOk, hgk⟩
end Nt
end Go.Proofs.YtemenlcigengeaaGreatDoor
namespace Go.Proofs.YtemenlcigengeaaGreatDoor
open Go.RowKit
namespace Nt
def GuessPost (w : World) (U V : Nat) (e : Ending) (w' : World) : Prop := ∃ g : Nat, e = .returned (.int .i64 (g : Int)) ∧ g ≤ 1000000000 ∧ g * V < U + V ∧ U < (g + 1) * V ∧ ∃ k, w' = w.drewN k
set_option maxRecDepth 100000 in
set_option maxHeartbeats 16000000 in
theorem guess_at (L : List Nat) (hL : Dg L) (b j cx V b2 o2 c2 : Nat) (w : World) (hO : Own w b L) (hv : N w (.slice (some ⟨b2, o2, none⟩) (wlen V) c2) V) (hm : 2 ≤ wlen V) (hit : j + wlen V + 1 ≤ L.length) (_hLl : L.length ≤ 2000000000) (hcx : L.length ≤ cx) (hcx2 : cx ≤ maxLen) (hc2 : wlen V ≤ c2) (hc3 : c2 ≤ maxLen)
    (htop : 500000000 ≤ wd (digs V) (wlen V - 1)) (hU : val (seg L j (wlen V + 1)) < B * V) :
    Calls Tryz.prog 134 #[.slice (some ⟨b, 0, none⟩) L.length cx, .slice (some ⟨b2, o2, none⟩) (wlen V) c2, .int .i64 (j : Int)] w (GuessPost w (val (seg L j (wlen V + 1))) V) := by
  have hcx2 : cx ≤ 9223372036854775807 := by unfold maxLen at hcx2; omega
  have hc3 : c2 ≤ 9223372036854775807 := by unfold maxLen at hc3; omega
  unfold wlen at hit hc2 hm htop hU ⊢
  obtain ⟨t1, t2, hVV⟩ := val_top (l := digs V) hm rfl
  rw [val_digs] at hVV
  have hUU := seg_top (l := L) (j := j) (m := (digs V).length) hm hit
  have hvl := val_lt ((digs_dg V).take ((digs V).length - 2))
  have hul := val_lt ((hL.drop j).take ((digs V).length - 2))
  rw [List.length_take, Nat.min_eq_left (by omega)] at hvl
  rw [List.length_take, Nat.min_eq_left (by rw [List.length_drop]; omega)] at hul
  have hx2 := hL.get (k := j + (digs V).length) (by omega)
  have hx1 := hL.get (k := j + (digs V).length - 1) (by omega)
  have hx0 := hL.get (k := j + (digs V).length - 2) (by omega)
  have ht1 := (digs_dg V).get t1
  have ht2 := (digs_dg V).get t2
  have e2 := hO.cell (i := j + (digs V).length) (by omega)
  have e1 := hO.cell (i := j + (digs V).length - 1) (by omega)
  have e0 := hO.cell (i := j + (digs V).length - 2) (by omega)
  obtain ⟨_, _, hbo, f1⟩ := sl_addr hv (wcs_get t1)
  cases hbo
  obtain ⟨_, _, hbo, f0⟩ := sl_addr hv (wcs_get t2)
  cases hbo
  rw [wd_get t1] at htop
  generalize L[j + (digs V).length] = x2 at *
  generalize L[j + (digs V).length - 1] = x1 at *
  generalize L[j + (digs V).length - 2] = u0 at *
  generalize (digs V)[(digs V).length - 1] = top at *
  generalize (digs V)[(digs V).length - 2] = next at *
  obtain ⟨h0, h9⟩ := guess_start hVV hUU hvl hul hx0 ht2 htop hU
  have HVV := Lib.hid hVV
  have HUU : Hid (val (seg L j ((digs V).length + 1)) = ((x2 * B + x1) * B + u0) * B ^ ((digs V).length - 2) + val ((L.drop j).take ((digs V).length - 2))) := hUU
  have HVL := Lib.hid hvl
  have HUL := Lib.hid hul
  have HUB := Lib.hid hU
  clear hVV hUU hvl hul hU hv hO hL
  rw [B_eq] at hx2 hx1 hx0 ht1 ht2
  obtain ⟨g0, r0, hg0, hgr, hr0, d1, d2, d3, d4⟩ := two_div hx2 hx1 htop
  have HGR0 : Hid (g0 * top + r0 = x2 * B + x1) := by
    have : g0 * top + r0 = x2 * B + x1 := by rw [B_eq]; exact hgr
    exact this
  rw [B_eq, ← hg0] at h0
  have HQ0 : Hid (val (seg L j ((digs V).length + 1)) < (g0 + 1) * V) := by
    have : val (seg L j ((digs V).length + 1)) < (g0 + 1) * V := by rw [hg0]; rw [B_eq] at h9; exact h9
    exact this
  clear hg0 hgr h9
  have hne : ((top : Int) == 0) = false := by simp; omega
  have hn3 : ((j : Int) + ((digs V).length : Int)).toNat = j + (digs V).length := by omega
  have hn4 : ((j : Int) + ((digs V).length : Int) - 1).toNat = j + (digs V).length - 1 := by omega
  have hn5 : ((j : Int) + ((digs V).length : Int) - 2).toNat = j + (digs V).length - 2 := by omega
  have hn6 : (((digs V).length : Int) - 1).toNat = (digs V).length - 1 := by omega
  have hn7 : (((digs V).length : Int) - 2).toNat = (digs V).length - 2 := by omega
  have i3 : (0 : Int) ≤ (j : Int) + ((digs V).length : Int) := by omega
  have i3' : (j : Int) + ((digs V).length : Int) < (L.length : Int) := by omega
  have i4 : (0 : Int) ≤ (j : Int) + ((digs V).length : Int) - 1 := by omega
  have i4' : (j : Int) + ((digs V).length : Int) - 1 < (L.length : Int) := by omega
  have i5 : (0 : Int) ≤ (j : Int) + ((digs V).length : Int) - 2 := by omega
  have i5' : (j : Int) + ((digs V).length : Int) - 2 < (L.length : Int) := by omega
  have k1 : -9223372036854775808 ≤ (x2 : Int) * 1000000000 ∧ (x2 : Int) * 1000000000 ≤ 9223372036854775807 := by omega
  have k2 : -9223372036854775808 ≤ (x2 : Int) * 1000000000 + (x1 : Int) ∧ (x2 : Int) * 1000000000 + (x1 : Int) ≤ 9223372036854775807 := by omega
  have k3 : -9223372036854775808 ≤ (j : Int) + ((digs V).length : Int) ∧ (j : Int) + ((digs V).length : Int) ≤ 9223372036854775807 := by omega
  have k4 : -9223372036854775808 ≤ (j : Int) + ((digs V).length : Int) - 1 ∧ (j : Int) + ((digs V).length : Int) - 1 ≤ 9223372036854775807 := by omega
  have hw1 : IntKind.i64.wrap ((x2 : Int) * 1000000000) = (x2 : Int) * 1000000000 := IntWalk.i64_in _ k1
  have hw2 : IntKind.i64.wrap ((x2 : Int) * 1000000000 + (x1 : Int)) = (x2 : Int) * 1000000000 + (x1 : Int) := IntWalk.i64_in _ k2
  have hw3 : IntKind.i64.wrap ((j : Int) + ((digs V).length : Int)) = (j : Int) + ((digs V).length : Int) := IntWalk.i64_in _ k3
  have hw4 : IntKind.i64.wrap ((j : Int) + ((digs V).length : Int) - 1) = (j : Int) + ((digs V).length : Int) - 1 := IntWalk.i64_in _ k4
  clear k1 k2 k3 k4
  go_enter Tryz.func134, Tryz.ntmps134
  go_wp2
  go_quiet (fail)
  clear hw1 hw2 hw3 hw4
  go_wp2
  clear d1 d2 d3 d4 hne
  go_loopw [9, 10] (fun qv rv wr => ∃ (q r nq : Nat), qv = .int .i64 q ∧ rv = .int .i64 r ∧ wr = w.drewN nq ∧ q ≤ 1000000001 ∧ r < 1000000000 ∧ Hid (q * top + r = x2 * B + x1) ∧ Hid (val (seg L j ((digs V).length + 1)) < (q + 1) * V)) (fun qv _ _ => (intOf qv).toNat)
  case atStart => exact ⟨g0, r0, _, rfl, rfl, rfl, h0, by omega, HGR0, HQ0⟩
  case round =>
    clear HGR0 HQ0 h0
    obtain ⟨q, r, nq, rfl, rfl, rfl, hq, hr, HGR, HQU⟩ := hrel
    have k5 : -9223372036854775808 ≤ (j : Int) + ((digs V).length : Int) - 2 ∧ (j : Int) + ((digs V).length : Int) - 2 ≤ 9223372036854775807 := by omega
    have k6 : -9223372036854775808 ≤ ((digs V).length : Int) - 2 ∧ ((digs V).length : Int) - 2 ≤ 9223372036854775807 := by omega
    have i6 : (0 : Int) ≤ ((digs V).length : Int) - 2 := by omega
    have i6' : ((digs V).length : Int) - 2 < ((digs V).length : Int) := by omega
    have k8 : -9223372036854775808 ≤ (r : Int) * 1000000000 ∧ (r : Int) * 1000000000 ≤ 9223372036854775807 := by omega
    have k9 : -9223372036854775808 ≤ (r : Int) * 1000000000 + (u0 : Int) ∧ (r : Int) * 1000000000 + (u0 : Int) ≤ 9223372036854775807 := by omega
    by_cases hqB : 1000000000 ≤ q
    · have HUQ : Hid (val (seg L j ((digs V).length + 1)) < q * V) := by
        have : val (seg L j ((digs V).length + 1)) < q * V := Nat.lt_of_lt_of_le HUB.out (Nat.mul_le_mul_right _ (by rw [B_eq]; exact hqB))
        exact this
      have hqI : (1000000000 : Int) ≤ (q : Int) := by omega
      have hqd : decide ((1000000000 : Int) ≤ (q : Int)) = true := decide_eq_true hqI
      have hw5 : IntKind.i64.wrap ((j : Int) + ((digs V).length : Int) - 2) = (j : Int) + ((digs V).length : Int) - 2 := IntWalk.i64_in _ k5
      have hw6 : IntKind.i64.wrap (((digs V).length : Int) - 2) = ((digs V).length : Int) - 2 := IntWalk.i64_in _ k6
      have hw8 : IntKind.i64.wrap ((r : Int) * 1000000000) = (r : Int) * 1000000000 := IntWalk.i64_in _ k8
      have hw9 : IntKind.i64.wrap ((r : Int) * 1000000000 + (u0 : Int)) = (r : Int) * 1000000000 + (u0 : Int) := IntWalk.i64_in _ k9
      clear k5 k6 k8 k9
      go_wp2
      go_quiet (fail)
      clear hw5 hw6 hw8 hw9
      by_cases hbr : 1000000000 ≤ r + top
      · have hbd : decide ((1000000000 : Int) ≤ (r : Int) + (top : Int)) = true := decide_eq_true (by omega)
        have HE := Lib.hid (guess_end (g := q - 1) (r := r + top) HVV.out HUU.out HVL.out (by omega) (by rw [B_eq]; omega) (by
          have h1 := HGR.out
          obtain ⟨q', rfl⟩ : ∃ q', q = q' + 1 := ⟨q - 1, by omega⟩
          rw [Nat.add_sub_cancel]
          rw [Nat.add_mul] at h1; omega) (by
          have h1 : (q - 1) * next ≤ 1000000000 * 999999999 := Nat.mul_le_mul (by omega) (by omega)
          rw [B_eq]; omega))
        have HQ1 : Hid (val (seg L j ((digs V).length + 1)) < (q - 1 + 1) * V) := by
          have : val (seg L j ((digs V).length + 1)) < (q - 1 + 1) * V := by rw [show q - 1 + 1 = q by omega]; exact HUQ.out
          exact this
        go_wp2
        go_ret
        exact ⟨q - 1, by go_num, by omega, HE.out, HQ1.out, _, by first | rfl | rw [World.drewN_drewN]⟩
      · have hbd : decide ((1000000000 : Int) ≤ (r : Int) + (top : Int)) = false := decide_eq_false (by omega)
        have HGR2 : Hid ((q - 1) * top + (r + top) = x2 * B + x1) := by
          have h1 := HGR.out
          have : (q - 1) * top + (r + top) = x2 * B + x1 := by
            obtain ⟨q', rfl⟩ : ∃ q', q = q' + 1 := ⟨q - 1, by omega⟩
            rw [Nat.add_sub_cancel]
            rw [Nat.add_mul] at h1; omega
          exact this
        have HQ1 : Hid (val (seg L j ((digs V).length + 1)) < (q - 1 + 1) * V) := by
          have : val (seg L j ((digs V).length + 1)) < (q - 1 + 1) * V := by rw [show q - 1 + 1 = q by omega]; exact HUQ.out
          exact this
        go_wp2
        go_roundw
        case rel => exact ⟨q - 1, r + top, _, by go_num, by go_num, by first | rfl | rw [World.drewN_drewN], by omega, by omega, HGR2, HQ1⟩
        case measure => simp [intOf] <;> omega
    · have hqI : (q : Int) < (1000000000 : Int) := by omega
      have hqd : decide ((1000000000 : Int) ≤ (q : Int)) = false := decide_eq_false (by omega)
      have hqn : q * next ≤ 999999999 * 999999999 := Nat.mul_le_mul (by omega) (by omega)
      have hqc : ((q * next : Nat) : Int) = (q : Int) * (next : Int) := Int.natCast_mul _ _
      have hp0 : 0 ≤ (q : Int) * (next : Int) := by omega
      have hp1 : (q : Int) * (next : Int) ≤ 999999998000000001 := by omega
      have k7 : -9223372036854775808 ≤ (q : Int) * (next : Int) ∧ (q : Int) * (next : Int) ≤ 9223372036854775807 := by omega
      by_cases hc : r * B + u0 < q * next
      · have HUQ := Lib.hid (guess_less HVV.out HUU.out HUL.out HGR.out hc)
        rw [B_eq] at hc
        have hq0 : 0 < q := by
          rcases Nat.eq_zero_or_pos q with h | h
          · subst h; rw [Nat.zero_mul] at hc; omega
          · exact h
        have hcI : decide ((r : Int) * 1000000000 + (u0 : Int) < (q : Int) * (next : Int)) = true := decide_eq_true (by omega)
        clear hc hqc hqn
        have hw5 : IntKind.i64.wrap ((j : Int) + ((digs V).length : Int) - 2) = (j : Int) + ((digs V).length : Int) - 2 := IntWalk.i64_in _ k5
        have hw6 : IntKind.i64.wrap (((digs V).length : Int) - 2) = ((digs V).length : Int) - 2 := IntWalk.i64_in _ k6
        have hw7 : IntKind.i64.wrap ((q : Int) * (next : Int)) = (q : Int) * (next : Int) := IntWalk.i64_in _ k7
        have hw8 : IntKind.i64.wrap ((r : Int) * 1000000000) = (r : Int) * 1000000000 := IntWalk.i64_in _ k8
        have hw9 : IntKind.i64.wrap ((r : Int) * 1000000000 + (u0 : Int)) = (r : Int) * 1000000000 + (u0 : Int) := IntWalk.i64_in _ k9
        clear k5 k6 k7 k8 k9
        go_wp2
        go_quiet (fail)
        clear hw5 hw6 hw7 hw8 hw9 hp0 hp1
        by_cases hbr : 1000000000 ≤ r + top
        · have hbd : decide ((1000000000 : Int) ≤ (r : Int) + (top : Int)) = true := decide_eq_true (by omega)
          have HE := Lib.hid (guess_end (g := q - 1) (r := r + top) HVV.out HUU.out HVL.out (by omega) (by rw [B_eq]; omega) (by
            have h1 := HGR.out
            obtain ⟨q', rfl⟩ : ∃ q', q = q' + 1 := ⟨q - 1, by omega⟩
            rw [Nat.add_sub_cancel]
            rw [Nat.add_mul] at h1; omega) (by
            have h1 : (q - 1) * next ≤ 1000000000 * 999999999 := Nat.mul_le_mul (by omega) (by omega)
            rw [B_eq]; omega))
          have HQ1 : Hid (val (seg L j ((digs V).length + 1)) < (q - 1 + 1) * V) := by
            have : val (seg L j ((digs V).length + 1)) < (q - 1 + 1) * V := by rw [show q - 1 + 1 = q by omega]; exact HUQ.out
            exact this
          go_wp2
          go_ret
          exact ⟨q - 1, by go_num, by omega, HE.out, HQ1.out, _, by first | rfl | rw [World.drewN_drewN]⟩
        · have hbd : decide ((1000000000 : Int) ≤ (r : Int) + (top : Int)) = false := decide_eq_false (by omega)
          have HGR2 : Hid ((q - 1) * top + (r + top) = x2 * B + x1) := by
            have h1 := HGR.out
            have : (q - 1) * top + (r + top) = x2 * B + x1 := by
              obtain ⟨q', rfl⟩ : ∃ q', q = q' + 1 := ⟨q - 1, by omega⟩
              rw [Nat.add_sub_cancel]
              rw [Nat.add_mul] at h1; omega
            exact this
          have HQ1 : Hid (val (seg L j ((digs V).length + 1)) < (q - 1 + 1) * V) := by
            have : val (seg L j ((digs V).length + 1)) < (q - 1 + 1) * V := by rw [show q - 1 + 1 = q by omega]; exact HUQ.out
            exact this
          go_wp2
          go_roundw
          case rel => exact ⟨q - 1, r + top, _, by go_num, by go_num, by first | rfl | rw [World.drewN_drewN], by omega, by omega, HGR2, HQ1⟩
          case measure => simp [intOf] <;> omega
      · have HE := Lib.hid (guess_end HVV.out HUU.out HVL.out (by omega) (by rw [B_eq]; omega) HGR.out (by omega : q * next ≤ r * B + u0))
        rw [B_eq] at hc
        have hcI : decide ((r : Int) * 1000000000 + (u0 : Int) < (q : Int) * (next : Int)) = false := decide_eq_false (by omega)
        clear hc hqc hqn
        have hw5 : IntKind.i64.wrap ((j : Int) + ((digs V).length : Int) - 2) = (j : Int) + ((digs V).length : Int) - 2 := IntWalk.i64_in _ k5
        have hw6 : IntKind.i64.wrap (((digs V).length : Int) - 2) = ((digs V).length : Int) - 2 := IntWalk.i64_in _ k6
        have hw7 : IntKind.i64.wrap ((q : Int) * (next : Int)) = (q : Int) * (next : Int) := IntWalk.i64_in _ k7
        have hw8 : IntKind.i64.wrap ((r : Int) * 1000000000) = (r : Int) * 1000000000 := IntWalk.i64_in _ k8
        have hw9 : IntKind.i64.wrap ((r : Int) * 1000000000 + (u0 : Int)) = (r : Int) * 1000000000 + (u0 : Int) := IntWalk.i64_in _ k9
        clear k5 k6 k7 k8 k9
        go_wp2
        go_quiet (fail)
        clear hw5 hw6 hw7 hw8 hw9 hp0 hp1
        go_wp2
        go_ret
        exact ⟨q, rfl, by omega, HE.out, HQU.out, _, by first | rfl | rw [World.drewN_drewN]⟩
end Nt
end Go.Proofs.YtemenlcigengeaaGreatDoor
