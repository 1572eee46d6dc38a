/- takeAway, giveBack of package value. Division of numbers of many words: plain mathematics. -/
import Derived.Test.YtilolnjbpokdnaaGreatDoorBq05
import Derived.Test.YtilolnjbpokdnaaGreatDoorBq03
namespace Go.Proofs.YtilolnjbpokdnaaGreatDoor
open Go.RowKit
namespace Nm
theorem only_setCell {a w : World} {g : Nat} (h : a.grownBy w (some g)) {i : Nat} (u : Value) : a.grownBy (w.setCell ⟨g, i, none⟩ u) (some g) :=
  ⟨h.os, h.tape, h.output, by simpa [World.setCell] using h.size, fun j hj hne => (Below.heap_setCell w ⟨g, i, none⟩ u j (by
    rintro rfl; exact hne rfl)).trans (h.block j hj hne)⟩
theorem N.grown {w w' : World} {b b2 o2 c2 n : Nat} (h : N w (.slice (some ⟨b2, o2, none⟩) (wlen n) c2) n) (hg : w.grownBy w' (some b)) (hne : b2 ≠ b) : N w' (.slice (some ⟨b2, o2, none⟩) (wlen n) c2) n := by
  obtain ⟨a, cap, hv, h1, h2, h0, h3⟩ := h
  cases hv
  refine ⟨_, c2, rfl, h1, h2, h0, fun i x hx => ?_⟩
  obtain ⟨b', o', ha, hc⟩ := h3 i x hx
  cases ha
  exact ⟨b2, o2, rfl, (World.cell?_of_block (hg.block b2 (World.block_lt_of_cell? w _ hc) (fun e => by cases e; exact hne rfl))).trans hc⟩
theorem drop_set_ge (l : List Nat) (i k z : Nat) : (l.set (i + k) z).drop i = (l.drop i).set k z := by
  rw [List.drop_set, if_neg (by omega)]; congr 1; omega
theorem take_set_ge (l : List Nat) (i k z : Nat) : (l.set (i + k) z).take i = l.take i := by
  rw [List.take_set_of_le (by omega)]
/-- the part of t words from i on -/
def seg (l : List Nat) (i t : Nat) : List Nat := (l.drop i).take t
theorem seg_set (l : List Nat) {i k : Nat} (h : i + k < l.length) (z : Nat) : val (seg (l.set (i + k) z) i (k + 1)) = val (seg l i k) + B ^ k * z := by
  unfold seg; rw [drop_set_ge, val_take_set _ _ _ (by rw [List.length_drop]; omega)]
theorem seg_succ (l : List Nat) {i k : Nat} (h : i + k < l.length) : val (seg l i (k + 1)) = val (seg l i k) + B ^ k * l[i + k] := by
  unfold seg; rw [val_take_succ _ _ (by rw [List.length_drop]; omega)]; simp
theorem seg_lt {l : List Nat} (h : Dg l) (i t : Nat) : val (seg l i t) < B ^ t := by
  have := val_lt ((h.drop i).take t)
  refine Nat.lt_of_lt_of_le this (Nat.pow_le_pow_right B_pos ?_)
  rw [List.length_take]; omega
theorem drop_get {l m : List Nat} {k : Nat} (h : l.drop k = m.drop k) (h1 : k < l.length) (h2 : k < m.length) : l[k] = m[k] ∧ l.drop (k + 1) = m.drop (k + 1) := by
  rw [List.drop_eq_getElem_cons h1, List.drop_eq_getElem_cons h2] at h
  exact List.cons.inj h
def TakePost (w : World) (b : Nat) (L : List Nat) (i t V n : Nat) (e : Ending) (w' : World) : Prop :=
  ∃ (L' : List Nat) (br : Nat), br ≤ 1 ∧ e = .returned (.bool (decide (val (seg L i t) < n * V))) ∧ L'.length = L.length ∧ Dg L' ∧ L'.take i = L.take i ∧ L'.drop (i + t) = L.drop (i + t) ∧ val (seg L' i t) + n * V = val (seg L i t) + B ^ t * br ∧ (br = 1 ↔ val (seg L i t) < n * V) ∧ Own w' b L' ∧ w.grownBy w' (some b)
def BackPost (w : World) (b : Nat) (L : List Nat) (i t V : Nat) (e : Ending) (w' : World) : Prop :=
  ∃ (L' : List Nat) (br : Nat), br ≤ 1 ∧ e = .returned (.tuple #[]) ∧ L'.length = L.length ∧ Dg L' ∧ L'.take i = L.take i ∧ L'.drop (i + t) = L.drop (i + t) ∧ val (seg L' i t) + B ^ t * br = val (seg L i t) + V ∧ Own w' b L' ∧ w.grownBy w' (some b)
theorem take_step {P V A n Vk c c' X vk z : Nat} (h : V + n * Vk = A + P * c) (hz : z + n * vk + c = X + B * c') : (V + P * z) + n * (Vk + P * vk) = (A + P * X) + P * B * c' := by
  have := sub_step (Y := n * vk) h hz
  rw [Nat.mul_add, show n * (P * vk) = P * (n * vk) by ac_rfl]
  exact this
theorem nmul_le {n v c : Nat} (hn : n ≤ 4294967296) (hv : v < 4294967296) (hc : c < 4294967296) : (c : Int) + (n : Int) * (v : Int) ≤ 18446744073709551615 ∧ 0 ≤ (n : Int) * (v : Int) ∧ (n : Int) * (v : Int) ≤ 18446744069414584320 := by
  have h : n * v ≤ 4294967296 * 4294967295 := Nat.mul_le_mul hn (by omega)
  have h2 : ((n * v : Nat) : Int) = (n : Int) * (v : Int) := Int.natCast_mul _ _
  omega
set_option maxHeartbeats 16000000 in
theorem takeAway_at (L : List Nat) (hL : Dg L) (b i t c V n b2 o2 c2 : Nat) (w : World) (hO : Own w b L) (hv : N w (.slice (some ⟨b2, o2, none⟩) (wlen V) c2) V) (hne : b2 ≠ b) (hit : i + t ≤ L.length) (hLl : L.length ≤ 2000000000) (hVt : wlen V < t) (hn : n ≤ 4294967296) :
    Calls Tryz.prog 184 #[.slice (some ⟨b, i, none⟩) t c, .slice (some ⟨b2, o2, none⟩) (wlen V) c2, .int .u64 (n : Int)] w (TakePost w b L i t V n) := by
  have HV := Lib.hid (digs_dg V)
  have HL := Lib.hid hL
  have HNV := Lib.hid hv
  have hVl : wlen V ≤ 2000000000 := by omega
  unfold wlen at hVl hVt ⊢
  clear hL hv
  have HZ : Hid (val (seg L i 0) + n * val ((digs V).take 0) = val (seg L i 0) + B ^ 0 * (0 + 0)) := by
    have : val (seg L i 0) + n * val ((digs V).take 0) = val (seg L i 0) + B ^ 0 * (0 + 0) := by simp [val]
    exact this
  go_enter Tryz.func184, Tryz.ntmps184
  go_wp2
  go_loopw [7, 8, 14] (fun cv bv iv wr => ∃ (k cr br : Nat) (S : List Nat), k ≤ t ∧ iv = .int .i64 k ∧ cv = .int .u64 cr ∧ bv = .int .u64 br ∧ cr < 4294967296 ∧ br ≤ 1 ∧ Hid ((digs V).length < k → cr = 0) ∧ Hid (S.length = L.length) ∧ Hid (Dg S) ∧ Hid (S.take i = L.take i) ∧ Hid (S.drop (i + k) = L.drop (i + k)) ∧ Hid (val (seg S i k) + n * val ((digs V).take k) = val (seg L i k) + B ^ k * (cr + br)) ∧ Own wr b S ∧ w.grownBy wr (some b)) (fun _ _ iv _ => t - (intOf iv).toNat)
  case atStart => exact ⟨0, 0, 0, L, by omega, rfl, rfl, rfl, by omega, by omega, fun _ => rfl, Lib.hid rfl, HL, Lib.hid rfl, Lib.hid rfl, HZ, hO, World.grownBy.refl w _⟩
  case round =>
    obtain ⟨k, cr, br, S, hk, rfl, rfl, rfl, hcr, hbr, HC0, HSl, HSd, HSt, HSr, HI, hOk, hgk⟩ := hrel
    by_cases hlt : k < t
    · have hko : i + k < S.length := by have := HSl.out; omega
      have hkl : i + k < L.length := by omega
      have o0 := hOk.cell hko
      have o1 := hOk.frozen (i + k)
      have hX := HL.out.get hkl
      obtain ⟨hXe, hSr2⟩ := drop_get HSr.out hko hkl
      have HSr2 : ∀ z, Hid ((S.set (i + k) z).drop (i + (k + 1)) = L.drop (i + (k + 1))) := fun z => by
        have : (S.set (i + k) z).drop (i + (k + 1)) = L.drop (i + (k + 1)) := by rw [List.drop_set_of_lt (by omega)]; exact hSr2
        exact this
      have HSt2 : ∀ z, Hid ((S.set (i + k) z).take i = L.take i) := fun z => by
        have : (S.set (i + k) z).take i = L.take i := by rw [take_set_ge]; exact HSt.out
        exact this
      have HST : ∀ z vk c', Hid (wd (digs V) k = vk → z + n * vk + (cr + br) = L[i + k] + B * c' → val (seg (S.set (i + k) z) i (k + 1)) + n * val ((digs V).take (k + 1)) = val (seg L i (k + 1)) + B ^ (k + 1) * c') := fun z vk c' => by
        have : wd (digs V) k = vk → z + n * vk + (cr + br) = L[i + k] + B * c' → val (seg (S.set (i + k) z) i (k + 1)) + n * val ((digs V).take (k + 1)) = val (seg L i (k + 1)) + B ^ (k + 1) * c' := fun hY hz => by
          rw [seg_set S hko, seg_succ L hkl, val_take_wd, hY, Nat.pow_succ]
          exact take_step HI.out hz
        exact this
      rw [hXe] at o0
      have H1 := Lib.hid HSr2
      have H2 := Lib.hid HSt2
      have H3 := Lib.hid HST
      clear HST HSt2 HSr2 hSr2 hXe HI HSr HSt
      by_cases hly : k < (digs V).length
      · obtain ⟨_, _, hbo, f0⟩ := sl_addr (HNV.out.grown hgk hne) (wcs_get hly)
        cases hbo
        have hY := HV.out.get hly
        have HWD := Lib.hid (wd_get hly)
        have HC1 : ∀ c', Hid ((digs V).length < k + 1 → c' = 0) := fun c' h => by omega
        generalize L[i + k] = X at *
        generalize (digs V)[k] = Y at *
        rw [B_eq] at hX hY
        obtain ⟨hm1, hm2, hm3⟩ := nmul_le hn hY hcr
        have HM := Lib.hid (Int.natCast_mul n Y)
        by_cases hc : X < (cr + n * Y) % 4294967296 + br
        · have HR := Lib.hid ((H3.out (X + 4294967296 - ((cr + n * Y) % 4294967296 + br)) Y ((cr + n * Y) / 4294967296 + 1)).out HWD.out (by have hmm := HM.out; rw [B_eq]; omega))
          have HD3 := H1.out (X + 4294967296 - ((cr + n * Y) % 4294967296 + br))
          have HD4 := H2.out (X + 4294967296 - ((cr + n * Y) % 4294967296 + br))
          have hcI : (X : Int) < ((cr : Int) + (n : Int) * (Y : Int)) % 4294967296 + (br : Int) := by have hmm := HM.out; omega
          have HC2 := HC1 ((cr + n * Y) / 4294967296)
          have HCx := Lib.hid hc
          clear H1 H2 H3 HC1 hc
          go_wp2
          go_roundw
          case rel => exact ⟨k + 1, (cr + n * Y) / 4294967296, 1, S.set (i + k) (X + 4294967296 - ((cr + n * Y) % 4294967296 + br)), by omega, by go_num, by have hmm := HM.out; rw [← hmm]; go_num, rfl, by have hmm := HM.out; omega, by omega, HC2, Hid.len_set HSl _ _, Hid.dg_set HSd _ (by have := HCx.out; rw [B_eq]; omega), HD4, HD3, HR, hOk.set' hko _ (by have := HCx.out; have hmm := HM.out; omega), only_setCell hgk _⟩
          case measure => simp [intOf]; omega
        · have HR := Lib.hid ((H3.out (X - ((cr + n * Y) % 4294967296 + br)) Y ((cr + n * Y) / 4294967296 + 0)).out HWD.out (by have hmm := HM.out; rw [B_eq]; omega))
          have HD3 := H1.out (X - ((cr + n * Y) % 4294967296 + br))
          have HD4 := H2.out (X - ((cr + n * Y) % 4294967296 + br))
          have hcI : ((cr : Int) + (n : Int) * (Y : Int)) % 4294967296 + (br : Int) ≤ (X : Int) := by have hmm := HM.out; omega
          have HC2 := HC1 ((cr + n * Y) / 4294967296)
          have HCx := Lib.hid hc
          clear H1 H2 H3 HC1 hc
          go_wp2
          go_roundw
          case rel => exact ⟨k + 1, (cr + n * Y) / 4294967296, 0, S.set (i + k) (X - ((cr + n * Y) % 4294967296 + br)), by omega, by go_num, by have hmm := HM.out; rw [← hmm]; go_num, rfl, by have hmm := HM.out; omega, by omega, HC2, Hid.len_set HSl _ _, Hid.dg_set HSd _ (by have := HCx.out; rw [B_eq]; omega), HD4, HD3, HR, hOk.set' hko _ (by have := HCx.out; have hmm := HM.out; omega), only_setCell hgk _⟩
          case measure => simp [intOf]; omega
      · have HWD := Lib.hid (wd_past (l := digs V) (k := k) (by omega))
        have HC1 : ∀ c', Hid (c' = cr / 4294967296 → ((digs V).length < k + 1 → c' = 0)) := fun c' => by
          have : c' = cr / 4294967296 → ((digs V).length < k + 1 → c' = 0) := fun h _ => by omega
          exact this
        generalize L[i + k] = X at *
        rw [B_eq] at hX
        by_cases hc : X < cr % 4294967296 + br
        · have HR := Lib.hid ((H3.out (X + 4294967296 - (cr % 4294967296 + br)) 0 (cr / 4294967296 + 1)).out HWD.out (by rw [B_eq]; omega))
          have HD3 := H1.out (X + 4294967296 - (cr % 4294967296 + br))
          have HD4 := H2.out (X + 4294967296 - (cr % 4294967296 + br))
          have HC2 : Hid ((digs V).length < k + 1 → cr / 4294967296 = 0) := (HC1 (cr / 4294967296)).out rfl
          have hcI : X < cr + br := by omega
          have HCx := Lib.hid hc
          clear H1 H2 H3 HC1 hc
          go_wp2
          go_roundw
          case rel => exact ⟨k + 1, cr / 4294967296, 1, S.set (i + k) (X + 4294967296 - (cr % 4294967296 + br)), by omega, by go_num, by go_num, rfl, by omega, by omega, HC2, Hid.len_set HSl _ _, Hid.dg_set HSd _ (by have := HCx.out; rw [B_eq]; omega), HD4, HD3, HR, hOk.set' hko _ (by have := HCx.out; omega), only_setCell hgk _⟩
          case measure => simp [intOf]; omega
        · have HR := Lib.hid ((H3.out (X - (cr % 4294967296 + br)) 0 (cr / 4294967296 + 0)).out HWD.out (by rw [B_eq]; omega))
          have HD3 := H1.out (X - (cr % 4294967296 + br))
          have HD4 := H2.out (X - (cr % 4294967296 + br))
          have HC2 : Hid ((digs V).length < k + 1 → cr / 4294967296 = 0) := (HC1 (cr / 4294967296)).out rfl
          have hcI : cr + br ≤ X := by omega
          have HCx := Lib.hid hc
          clear H1 H2 H3 HC1 hc
          go_wp2
          go_roundw
          case rel => exact ⟨k + 1, cr / 4294967296, 0, S.set (i + k) (X - (cr % 4294967296 + br)), by omega, by go_num, by go_num, rfl, by omega, by omega, HC2, Hid.len_set HSl _ _, Hid.dg_set HSd _ (by have := HCx.out; rw [B_eq]; omega), HD4, HD3, HR, hOk.set' hko _ (by have := HCx.out; omega), only_setCell hgk _⟩
          case measure => simp [intOf]; omega
    · obtain rfl : k = t := by omega
      have HE : Hid (cr = 0) := HC0.out hVt
      have HI2 : Hid (val (seg S i k) + n * V = val (seg L i k) + B ^ k * br) := by
        have h1 := HI.out
        rw [List.take_of_length_le (by omega), val_digs, HE.out, Nat.zero_add] at h1
        exact h1
      have HLT := Lib.hid (seg_lt HSd.out i k)
      have HB : Hid (br = 1 ↔ val (seg L i k) < n * V) := by
        have h1 := HI2.out
        have h2 := HLT.out
        have : br = 1 ↔ val (seg L i k) < n * V := by
          obtain rfl | rfl : br = 0 ∨ br = 1 := by omega
          · rw [Nat.mul_zero] at h1; omega
          · rw [Nat.mul_one] at h1; omega
        exact this
      clear HI HE HC0
      go_wp2
      go_ret
      refine ⟨S, br, hbr, ?_, HSl.out, HSd.out, HSt.out, HSr.out, HI2.out, HB.out, hOk, hgk⟩
      refine congrArg (fun q => Ending.returned (.bool q)) ?_
      refine decide_eq_decide.2 ?_
      rw [← HB.out]
      constructor <;> intro _ <;> omega
set_option maxHeartbeats 16000000 in
theorem giveBack_at (L : List Nat) (hL : Dg L) (b i t c V b2 o2 c2 : Nat) (w : World) (hO : Own w b L) (hv : N w (.slice (some ⟨b2, o2, none⟩) (wlen V) c2) V) (hne : b2 ≠ b) (hit : i + t ≤ L.length) (hLl : L.length ≤ 2000000000) (hVt : wlen V < t) :
    Calls Tryz.prog 185 #[.slice (some ⟨b, i, none⟩) t c, .slice (some ⟨b2, o2, none⟩) (wlen V) c2] w (BackPost w b L i t V) := by
  have HV := Lib.hid (digs_dg V)
  have HL := Lib.hid hL
  have HNV := Lib.hid hv
  have hVl : wlen V ≤ 2000000000 := by omega
  unfold wlen at hVl hVt ⊢
  clear hL hv
  have HZ : Hid (val (seg L i 0) + B ^ 0 * 0 = val (seg L i 0) + val ((digs V).take 0)) := by
    have : val (seg L i 0) + B ^ 0 * 0 = val (seg L i 0) + val ((digs V).take 0) := by simp [val]
    exact this
  go_enter Tryz.func185, Tryz.ntmps185
  go_wp2
  go_loopw [4, 8] (fun cv iv wr => ∃ (k cr : Nat) (S : List Nat), k ≤ t ∧ iv = .int .i64 k ∧ cv = .int .u64 cr ∧ cr ≤ 1 ∧ Hid (S.length = L.length) ∧ Hid (Dg S) ∧ Hid (S.take i = L.take i) ∧ Hid (S.drop (i + k) = L.drop (i + k)) ∧ Hid (val (seg S i k) + B ^ k * cr = val (seg L i k) + val ((digs V).take k)) ∧ Own wr b S ∧ w.grownBy wr (some b)) (fun _ iv _ => t - (intOf iv).toNat)
  case atStart => exact ⟨0, 0, L, by omega, rfl, rfl, by omega, Lib.hid rfl, HL, Lib.hid rfl, Lib.hid rfl, HZ, hO, World.grownBy.refl w _⟩
  case round =>
    obtain ⟨k, cr, S, hk, rfl, rfl, hcr, HSl, HSd, HSt, HSr, HI, hOk, hgk⟩ := hrel
    by_cases hlt : k < t
    · have hko : i + k < S.length := by have := HSl.out; omega
      have hkl : i + k < L.length := by omega
      have o0 := hOk.cell hko
      have o1 := hOk.frozen (i + k)
      have hX := HL.out.get hkl
      obtain ⟨hXe, hSr2⟩ := drop_get HSr.out hko hkl
      have HSr2 : ∀ z, Hid ((S.set (i + k) z).drop (i + (k + 1)) = L.drop (i + (k + 1))) := fun z => by
        have : (S.set (i + k) z).drop (i + (k + 1)) = L.drop (i + (k + 1)) := by rw [List.drop_set_of_lt (by omega)]; exact hSr2
        exact this
      have HSt2 : ∀ z, Hid ((S.set (i + k) z).take i = L.take i) := fun z => by
        have : (S.set (i + k) z).take i = L.take i := by rw [take_set_ge]; exact HSt.out
        exact this
      have HST : ∀ vk, Hid (wd (digs V) k = vk → val (seg (S.set (i + k) ((cr + L[i + k] + vk) % 4294967296)) i (k + 1)) + B ^ (k + 1) * ((cr + L[i + k] + vk) / 4294967296) = val (seg L i (k + 1)) + val ((digs V).take (k + 1))) := fun vk => by
        have : wd (digs V) k = vk → val (seg (S.set (i + k) ((cr + L[i + k] + vk) % 4294967296)) i (k + 1)) + B ^ (k + 1) * ((cr + L[i + k] + vk) / 4294967296) = val (seg L i (k + 1)) + val ((digs V).take (k + 1)) := fun hY => by
          rw [seg_set S hko, seg_succ L hkl, val_take_wd, hY, Nat.pow_succ]
          exact add_step HI.out
        exact this
      rw [hXe] at o0
      have H1 := Lib.hid HSr2
      have H2 := Lib.hid HSt2
      have H3 := Lib.hid HST
      clear HST HSt2 HSr2 hSr2 hXe HI HSr HSt
      by_cases hly : k < (digs V).length
      · obtain ⟨_, _, hbo, f0⟩ := sl_addr (HNV.out.grown hgk hne) (wcs_get hly)
        cases hbo
        have hY := HV.out.get hly
        have HWD := Lib.hid (wd_get hly)
        generalize L[i + k] = X at *
        generalize (digs V)[k] = Y at *
        rw [B_eq] at hX hY
        have HR := Lib.hid ((H3.out Y).out HWD.out)
        have HD3 := H1.out ((cr + X + Y) % 4294967296)
        have HD4 := H2.out ((cr + X + Y) % 4294967296)
        clear H1 H2 H3
        go_wp2
        go_roundw
        case rel => exact ⟨k + 1, (cr + X + Y) / 4294967296, S.set (i + k) ((cr + X + Y) % 4294967296), by omega, by go_num, by go_num, by omega, Hid.len_set HSl _ _, Hid.dg_set HSd _ (by rw [B_eq]; omega), HD4, HD3, HR, hOk.set' hko _ (by omega), only_setCell hgk _⟩
        case measure => simp [intOf]; omega
      · have HWD := Lib.hid (wd_past (l := digs V) (k := k) (by omega))
        generalize L[i + k] = X at *
        rw [B_eq] at hX
        have HR : Hid (val (seg (S.set (i + k) ((cr + X) % 4294967296)) i (k + 1)) + B ^ (k + 1) * ((cr + X) / 4294967296) = val (seg L i (k + 1)) + val ((digs V).take (k + 1))) := by
          have := (H3.out 0).out HWD.out
          rw [Nat.add_zero] at this
          exact this
        have HD3 := H1.out ((cr + X) % 4294967296)
        have HD4 := H2.out ((cr + X) % 4294967296)
        clear H1 H2 H3
        go_wp2
        go_roundw
        case rel => exact ⟨k + 1, (cr + X) / 4294967296, S.set (i + k) ((cr + X) % 4294967296), by omega, by go_num, by go_num, by omega, Hid.len_set HSl _ _, Hid.dg_set HSd _ (by rw [B_eq]; omega), HD4, HD3, HR, hOk.set' hko _ (by omega), only_setCell hgk _⟩
        case measure => simp [intOf]; omega
    · obtain rfl : k = t := by omega
      have HI2 : Hid (val (seg S i k) + B ^ k * cr = val (seg L i k) + V) := by
        have h1 := HI.out
        rw [List.take_of_length_le (by omega), val_digs] at h1
        exact h1
      clear HI
      go_wp2
      go_end0
      exact ⟨S, cr, hcr, rfl, HSl.out, HSd.out, HSt.out, HSr.out, HI2.out, hOk, hgk⟩
end Nm
end Go.Proofs.YtilolnjbpokdnaaGreatDoor
namespace Go.Proofs.YtilolnjbpokdnaaGreatDoor
namespace Nm
/-- the guess is at most two too great -/
theorem guess_start {two top next P vl u0 ul V U : Nat} (hV : V = (top * B + next) * P + vl) (hU : U = (two * B + u0) * P + ul) (hvl : vl < P) (hul : ul < P) (hu0 : u0 < B) (hnext : next < B) (htop : 2147483648 ≤ top) (hUV : U < B * V) :
    two / top ≤ B + 1 ∧ U < (two / top + 1) * V := by
  have hP : 0 < P := by omega
  constructor
  · have h1 : two * B * P ≤ U := by
      rw [hU, Nat.add_mul]; omega
    have h2 : V < (top * B + next + 1) * P := by rw [hV, Nat.add_mul (top * B + next) 1 P]; omega
    have h3 : B * V < B * ((top * B + next + 1) * P) := Nat.mul_lt_mul_of_pos_left h2 B_pos
    have h4 : two * B * P < (top * B + next + 1) * B * P := by
      have : B * ((top * B + next + 1) * P) = (top * B + next + 1) * B * P := by ac_rfl
      omega
    have h5 : two * B < (top * B + next + 1) * B := Nat.lt_of_mul_lt_mul_right h4
    have h6 : two < top * B + next + 1 := Nat.lt_of_mul_lt_mul_right h5
    have h7 : two < top * (B + 2) := by have hb := B_eq; rw [Nat.mul_add]; omega
    have h8 : two / top < B + 2 := by rw [Nat.div_lt_iff_lt_mul (by omega), Nat.mul_comm]; exact h7
    omega
  · have h1 : two < (two / top + 1) * top := by
      have := Nat.div_add_mod two top
      have h2 := Nat.mod_lt two (show 0 < top by omega)
      rw [Nat.add_mul, Nat.one_mul, Nat.mul_comm (two / top)]; omega
    have h2 : U < (two + 1) * B * P := by
      rw [hU]
      have : (two * B + u0) * P + ul < (two * B + u0 + 1) * P := by rw [Nat.add_mul (two * B + u0) 1 P]; omega
      refine Nat.lt_of_lt_of_le this (Nat.mul_le_mul_right _ ?_)
      rw [Nat.add_mul]; omega
    have h3 : (two + 1) * B * P ≤ (two / top + 1) * top * B * P := Nat.mul_le_mul_right _ (Nat.mul_le_mul_right _ h1)
    have h4 : (two / top + 1) * top * B * P ≤ (two / top + 1) * V := by
      rw [hV, Nat.mul_assoc, Nat.mul_assoc]
      refine Nat.mul_le_mul_left _ ?_
      rw [← Nat.mul_assoc, Nat.add_mul]; omega
    omega
theorem guess_less {g r two top next P vl u0 ul V U : Nat} (hV : V = (top * B + next) * P + vl) (hU : U = (two * B + u0) * P + ul) (hul : ul < P) (hgr : g * top + r = two) (h : r * B + u0 < g * next) : U < g * V := by
  have h1 : two * B + u0 + 1 ≤ g * (top * B + next) := by
    rw [← hgr, Nat.mul_add, ← Nat.mul_assoc, Nat.add_mul]; omega
  have h2 : (two * B + u0 + 1) * P ≤ g * (top * B + next) * P := Nat.mul_le_mul_right _ h1
  have h3 : g * (top * B + next) * P ≤ g * V := by rw [hV, Nat.mul_assoc]; exact Nat.mul_le_mul_left _ (by omega)
  rw [Nat.add_mul (two * B + u0) 1 P] at h2
  omega
theorem guess_end {g r two top next P vl u0 ul V U : Nat} (hV : V = (top * B + next) * P + vl) (hU : U = (two * B + u0) * P + ul) (hvl : vl < P) (htop : 1 ≤ top) (hg : g ≤ B) (hgr : g * top + r = two) (h : g * next ≤ r * B + u0) : g * V < U + V := by
  have h1 : g * (top * B + next) ≤ two * B + u0 := by
    rw [← hgr, Nat.mul_add, ← Nat.mul_assoc, Nat.add_mul]; omega
  have h2 : g * (top * B + next) * P ≤ (two * B + u0) * P := Nat.mul_le_mul_right _ h1
  have h3 : g * vl ≤ B * vl := Nat.mul_le_mul_right _ hg
  have h4 : B * (vl + 1) ≤ B * P := Nat.mul_le_mul_left _ hvl
  have h5 : 1 * B * P ≤ top * B * P := Nat.mul_le_mul_right _ (Nat.mul_le_mul_right _ htop)
  have h6 : top * B * P ≤ V := by rw [hV, Nat.add_mul]; omega
  have h7 : g * V = g * (top * B + next) * P + g * vl := by rw [hV, Nat.mul_add, Nat.mul_assoc]
  have := B_pos
  rw [Nat.mul_add, Nat.mul_one] at h4
  rw [Nat.one_mul] at h5
  omega
/-- the words of the divisor from the top -/
theorem val_top {l : List Nat} {m : Nat} (hm : 2 ≤ m) (hl : l.length = m) : ∃ (h1 : m - 1 < l.length) (h2 : m - 2 < l.length), val l = (l[m - 1] * B + l[m - 2]) * B ^ (m - 2) + val (l.take (m - 2)) := by
  refine ⟨by omega, by omega, ?_⟩
  have e1 := val_take_succ l (m - 1) (by omega)
  have e2 := val_take_succ l (m - 2) (by omega)
  rw [show m - 1 + 1 = m by omega, List.take_of_length_le (by omega)] at e1
  rw [show m - 2 + 1 = m - 1 by omega] at e2
  have e3 : B ^ (m - 1) = B ^ (m - 2) * B := by rw [← Nat.pow_succ]; congr 1; omega
  rw [e1, e2, e3, Nat.add_mul]
  have : l[m - 1] * B * B ^ (m - 2) = B ^ (m - 2) * B * l[m - 1] := by ac_rfl
  rw [Nat.mul_comm l[m - 2]]
  omega
/-- the quotient of what is shifted -/
theorem shift_div {x y d Q R : Nat} (hd : 0 < d) (hy : 0 < y) (h : x * d = Q * (y * d) + R) (hR : R < y * d) : Q = x / y ∧ R / d = x % y := by
  have hQ : x * d / (y * d) = Q := by
    rw [h, Nat.add_comm, Nat.add_mul_div_right _ _ (Nat.mul_pos hy hd), Nat.div_eq_of_lt hR, Nat.zero_add]
  have hR2 : x * d % (y * d) = R := by rw [h, Nat.add_comm, Nat.add_mul_mod_self_right, Nat.mod_eq_of_lt hR]
  rw [Nat.mul_div_mul_right _ _ hd] at hQ
  rw [Nat.mul_mod_mul_right] at hR2
  exact ⟨hQ.symm, by rw [← hR2, Nat.mul_div_cancel _ hd]⟩
/-- the divisor, shifted: its top word is great, and it has no more words -/
theorem norm_top {y s m : Nat} (hm : wlen y = m) (hm1 : 1 ≤ m) (hs : s < 32) {t : Nat} (ht : wd (digs y) (m - 1) = t) (h1 : 2147483648 ≤ t * 2 ^ s) (h2 : t * 2 ^ s < 4294967296) : wlen (y * 2 ^ s) = m ∧ 2147483648 ≤ wd (digs (y * 2 ^ s)) (m - 1) ∧ B ^ (m - 1) * 2 ^ s ≤ y * 2 ^ s ∧ y * 2 ^ s < B ^ m := by
  have hl : (digs y).length = m := hm
  have e := val_take_wd (digs y) (m - 1)
  rw [show m - 1 + 1 = m by omega, List.take_of_length_le (by omega), val_digs, ht] at e
  have hlow := val_lt ((digs_dg y).take (m - 1))
  rw [List.length_take, Nat.min_eq_left (by omega)] at hlow
  have hB : B ^ m = B ^ (m - 1) * B := by rw [← Nat.pow_succ]; congr 1; omega
  have hp := Nat.two_pow_pos s
  have hy0 : 0 < t := by
    rcases Nat.eq_zero_or_pos t with h | h
    · subst h; simp at h1
    · exact h
  have hE : 2 ^ (32 - s) * 2 ^ s = 4294967296 := by rw [← Nat.pow_add, show 32 - s + s = 32 by omega]
  have ht2 : (t + 1) * 2 ^ s ≤ 4294967296 := by
    rw [← hE]; refine Nat.mul_le_mul_right _ ?_
    rw [← hE] at h2
    exact Nat.lt_of_mul_lt_mul_right h2
  have hup : y * 2 ^ s < B ^ m := by
    rw [hB]
    have h3 : y < B ^ (m - 1) * (t + 1) := by rw [Nat.mul_add]; omega
    have h4 := Nat.mul_lt_mul_of_pos_right h3 hp
    refine Nat.lt_of_lt_of_le h4 ?_
    rw [Nat.mul_assoc]; exact Nat.mul_le_mul_left _ (by rw [B_eq]; exact ht2)
  have hlo : B ^ (m - 1) * (t * 2 ^ s) ≤ y * 2 ^ s := by
    rw [← Nat.mul_assoc]; exact Nat.mul_le_mul_right _ (by omega)
  have hlo2 : B ^ (m - 1) * 2147483648 ≤ y * 2 ^ s := Nat.le_trans (Nat.mul_le_mul_left _ h1) hlo
  have hBp : 0 < B ^ (m - 1) := Nat.pow_pos B_pos
  have hw : wlen (y * 2 ^ s) = m := by
    refine Nat.le_antisymm (wlen_le hup) ?_
    have h5 := lt_pow_wlen (y * 2 ^ s)
    have h6 : B ^ (m - 1) < B ^ wlen (y * 2 ^ s) := by omega
    have := (Nat.pow_lt_pow_iff_right (show 1 < B by decide)).1 h6
    omega
  refine ⟨hw, ?_, ?_, hup⟩
  · have hl2 : (digs (y * 2 ^ s)).length = m := hw
    have e2 := val_take_wd (digs (y * 2 ^ s)) (m - 1)
    rw [show m - 1 + 1 = m by omega, List.take_of_length_le (by omega), val_digs] at e2
    have hlow2 := val_lt ((digs_dg (y * 2 ^ s)).take (m - 1))
    rw [List.length_take, Nat.min_eq_left (by omega)] at hlow2
    generalize wd (digs (y * 2 ^ s)) (m - 1) = T at *
    have h7 : B ^ (m - 1) * 2147483648 < B ^ (m - 1) * (T + 1) := by rw [Nat.mul_add (B ^ (m - 1)) T 1]; omega
    have := Nat.lt_of_mul_lt_mul_left h7
    omega
  · refine Nat.mul_le_mul_right _ ?_
    have : B ^ (m - 1) * 1 ≤ B ^ (m - 1) * t := Nat.mul_le_mul_left _ hy0
    omega
theorem start_lt {x s n m V : Nat} {u0 : List Nat} (hl : u0.length = n + 1) (huv : val u0 = x * 2 ^ s) (hx : x < B ^ n) (hV : B ^ (m - 1) * 2 ^ s ≤ V) (h1 : 1 ≤ m) (hmn : m ≤ n) : val (u0.drop (n + 1 - m)) < V := by
  have e := val_take_drop u0 (n + 1 - m) (by omega)
  rw [huv] at e
  rcases Nat.lt_or_ge (val (u0.drop (n + 1 - m))) V with h | h
  · exact h
  · exfalso
    have h2 : B ^ (n + 1 - m) * (B ^ (m - 1) * 2 ^ s) ≤ B ^ (n + 1 - m) * val (u0.drop (n + 1 - m)) := Nat.mul_le_mul_left _ (Nat.le_trans hV h)
    rw [← Nat.mul_assoc, ← Nat.pow_add, show n + 1 - m + (m - 1) = n by omega] at h2
    have h3 := Nat.mul_lt_mul_of_pos_right hx (Nat.two_pow_pos s)
    omega
/-- the part that is divided in a round -/
theorem seg_all {l : List Nat} {j m V : Nat} (hj : j + m + 1 ≤ l.length) (hd : val (l.drop (j + 1)) < V) (hlj : l[j]'(by omega) < B) (hV : V < B ^ m) : val ((l.drop j).take (m + 1)) = val (l.drop j) ∧ val (l.drop j) < B * V ∧ val (l.drop j) = l[j]'(by omega) + B * val (l.drop (j + 1)) ∧ val ((l.drop (j + m + 1))) = 0 := by
  have e1 := val_drop l j (by omega)
  have h1 : val (l.drop j) < B * V := by
    rw [e1]
    have : B * (val (l.drop (j + 1)) + 1) ≤ B * V := Nat.mul_le_mul_left _ hd
    rw [Nat.mul_add] at this; omega
  have e2 := val_take_drop (l.drop j) (m + 1) (by rw [List.length_drop]; omega)
  rw [List.drop_drop, ← Nat.add_assoc] at e2
  have h2 : B * V < B ^ (m + 1) := by rw [Nat.pow_succ, Nat.mul_comm]; exact Nat.mul_lt_mul_of_pos_right hV B_pos
  have h3 : val (l.drop (j + m + 1)) = 0 := by
    rcases Nat.eq_zero_or_pos (val (l.drop (j + m + 1))) with h | h
    · exact h
    · have : B ^ (m + 1) * 1 ≤ B ^ (m + 1) * val (l.drop (j + m + 1)) := Nat.mul_le_mul_left _ h
      omega
  refine ⟨?_, h1, e1, h3⟩
  rw [h3] at e2; omega
theorem seg_top {l : List Nat} {j m : Nat} (hm : 2 ≤ m) (hj : j + m + 1 ≤ l.length) : val ((l.drop j).take (m + 1)) = ((l[j + m]'(by omega) * B + l[j + m - 1]'(by omega)) * B + l[j + m - 2]'(by omega)) * B ^ (m - 2) + val ((l.drop j).take (m - 2)) := by
  have e1 := val_take_succ (l.drop j) m (by rw [List.length_drop]; omega)
  have e2 := val_take_succ (l.drop j) (m - 1) (by rw [List.length_drop]; omega)
  have e3 := val_take_succ (l.drop j) (m - 2) (by rw [List.length_drop]; omega)
  rw [show m - 1 + 1 = m by omega] at e2
  rw [show m - 2 + 1 = m - 1 by omega] at e3
  simp only [List.getElem_drop] at e1 e2 e3
  have i2 : j + (m - 1) = j + m - 1 := by omega
  have i3 : j + (m - 2) = j + m - 2 := by omega
  simp only [i2, i3] at e2 e3
  rw [e1, e2, e3]
  have p1 : B ^ (m - 1) = B ^ (m - 2) * B := by rw [← Nat.pow_succ]; congr 1; omega
  have p2 : B ^ m = B ^ (m - 2) * B * B := by rw [← p1, ← Nat.pow_succ]; congr 1; omega
  rw [p1, p2]
  generalize B ^ (m - 2) = P
  generalize l[j + m] = a
  generalize l[j + m - 1] = b
  generalize l[j + m - 2] = c
  have : ((a * B + b) * B + c) * P = P * B * B * a + P * B * b + P * c := by
    rw [Nat.add_mul, Nat.add_mul, Nat.add_mul]
    rw [show a * B * B * P = P * B * B * a by ac_rfl, show b * B * P = P * B * b by ac_rfl, Nat.mul_comm c P]
  omega
/-- the end of a round: the quotient's word, and what is left -/
theorem round_end {D0 Q V R R' x g D Bv : Nat} (hD : D0 = Q * V + R) (hDj : D = x + Bv * D0) (hU : x + Bv * R = g * V + R') : D = (g + Bv * Q) * V + R' := by
  subst hD; rw [hDj, Nat.mul_add, Nat.add_mul, Nat.mul_assoc]; omega
theorem two_div {x2 x1 top : Nat} (_h2 : x2 < 4294967296) (_h1 : x1 < 4294967296) (ht : 2147483648 ≤ top) : ∃ g r : Nat, g = (x2 * 4294967296 + x1) / top ∧ g * top + r = x2 * 4294967296 + x1 ∧ r < top ∧
    ((x2 : Int) * 4294967296 + (x1 : Int)).tdiv (top : Int) = (g : Int) ∧ ((x2 : Int) * 4294967296 + (x1 : Int)).tmod (top : Int) = (r : Int) ∧ ((x2 : Int) * 4294967296 + (x1 : Int)) / (top : Int) = (g : Int) ∧ ((x2 : Int) * 4294967296 + (x1 : Int)) % (top : Int) = (r : Int) := by
  have hc : ((x2 : Int) * 4294967296 + (x1 : Int)) = ((x2 * 4294967296 + x1 : Nat) : Int) := by omega
  refine ⟨_, (x2 * 4294967296 + x1) % top, rfl, Nat.div_add_mod' _ _, Nat.mod_lt _ (by omega), ?_, ?_, ?_, ?_⟩
  · rw [hc]; rfl
  · rw [hc]; rfl
  · rw [hc]; rfl
  · rw [hc]; rfl
theorem seg_same {S' S : List Nat} {j m : Nat} (h : j + m + 1 ≤ S'.length) (hS'r : S'.drop (j + (m + 1)) = S.drop (j + (m + 1))) (hz : val (S.drop (j + m + 1)) = 0)  : val (S'.drop j) = val ((S'.drop j).take (m + 1)) := by
    have := val_take_drop (S'.drop j) (m + 1) (by rw [List.length_drop]; omega)
    rw [List.drop_drop, hS'r, ← Nat.add_assoc, hz, Nat.mul_zero, Nat.add_zero] at this
    exact this
theorem get_same {S u0 : List Nat} {j : Nat} (hSl : j < S.length) (hul : j < u0.length) (hSt : S.take (j + 1) = u0.take (j + 1)) : S[j] = u0[j] := by
    have h1 : (S.take (j + 1))[j]? = (u0.take (j + 1))[j]? := by rw [hSt]
    rw [List.getElem?_take_of_lt (by omega), List.getElem?_take_of_lt (by omega), List.getElem?_eq_getElem (by omega), List.getElem?_eq_getElem (by omega)] at h1
    exact Option.some.inj h1
theorem round_val {S S' u0 Q : List Nat} {j V d : Nat} (hSl : j < S.length) (hul : j < u0.length) (hQl : j < Q.length) (hI : val (u0.drop (j + 1)) = val (Q.drop (j + 1)) * V + val (S.drop (j + 1))) (hx : S[j] = u0[j]) (hv : val (S'.drop j) + d * V = val (S.drop j)) : val (u0.drop j) = val ((Q.set j d).drop j) * V + val (S'.drop j) := by
  have h1 := val_drop S j hSl
  have h2 := val_drop u0 j hul
  rw [drop_set Q j d hQl]
  have h3 : val (d :: Q.drop (j + 1)) = d + B * val (Q.drop (j + 1)) := rfl
  rw [h3]
  rw [h1, hx] at hv
  generalize B = Bv at *
  exact round_end hI h2 (by rw [Nat.add_comm (d * V)]; exact hv.symm)
theorem over_round {S S' u0 Q : List Nat} {j m V d U n : Nat} (hSl : S.length = n + 1) (hj : j + m ≤ n) (hS'l : S'.length = S.length) (hul : u0.length = n + 1) (hQl : j < Q.length) (hSt : S.take (j + 1) = u0.take (j + 1)) (hI : val (u0.drop (j + 1)) = val (Q.drop (j + 1)) * V + val (S.drop (j + 1))) (hS't : S'.take j = S.take j) (hS'r : S'.drop (j + (m + 1)) = S.drop (j + (m + 1))) (hz : val (S.drop (j + m + 1)) = 0) (hU : U = val (S.drop j)) (hv : val ((S'.drop j).take (m + 1)) + d * V = U) :
    S'.take j = u0.take j ∧ val (u0.drop j) = val ((Q.set j d).drop j) * V + val (S'.drop j) ∧ val (S'.drop j) = val ((S'.drop j).take (m + 1)) := by
  have e1 : S'.take j = u0.take j := by
    have := congrArg (List.take j) hSt
    rw [List.take_take, List.take_take, Nat.min_eq_left (Nat.le_succ j)] at this
    rw [hS't]; exact this
  have e2 : val (S'.drop j) = val ((S'.drop j).take (m + 1)) := seg_same (by omega) hS'r hz
  refine ⟨e1, ?_, e2⟩
  rw [← e2, hU] at hv
  exact round_val (by omega) (by omega) hQl hI (get_same (by omega) (by omega) hSt) hv
theorem digit_lt {d V U R : Nat} (hV : U < B * V) (h : R + d * V = U) : d < B := by
  rcases Nat.lt_or_ge d B with h1 | h1
  · exact h1
  · have := Nat.mul_le_mul_right V h1; omega
end Nm
end Go.Proofs.YtilolnjbpokdnaaGreatDoor
