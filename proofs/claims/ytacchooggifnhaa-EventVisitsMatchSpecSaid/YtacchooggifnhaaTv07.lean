/- Tallies$2, slices.MinFunc, slices.MaxFunc at subjects. Printed by gen_min.py. Plain: visits of sorted times; tallies of subjects. No program stands in it. -/
import Derived.Test.YtacchooggifnhaaTv06
import Derived.Test.YtacchooggifnhaaTv02
namespace Go.Proofs.Ytacchooggifnhaa
open Go.RowKit
namespace Ex
open _root_.Go.Proofs.Ytacchooggifnhaa.Nt (RH RH.cell RH.row RH.row_other RH.lt RH.new RH.ext)
theorem wp_rh1 {P : Program} {c : Code} {Q : Exit → Act → World → Prop} {a : Act} {w : World} {A : Array Value} {t : TypeId}
    (h : ∀ W, W.heap.size = w.heap.size + 1 → Below w.heap.size w W → RH W w.heap.size A t → c.wp P Q a W) : c.wp P Q a (w.alloc (.cells A t)) := h _ (by simp) (ext_alloc _ _) (RH.new _ _ _)
theorem below_row {B : Nat} {w w' : World} (h : Below B w w') {g : Nat} (hg : B ≤ g) {A0 A : Array Value} {t : TypeId} (_hR : RH w' g A0 t) : Below B w (w'.setRow g A) := by
  refine h.trans ⟨rfl, rfl, rfl, by simp, fun j hj => setRow_other w' g j A (by omega)⟩
abbrev zSb : Array Value := #[.string ⟨#[]⟩, .int .i64 0, .int .i64 0, .int .i64 0, .int .i64 0, .int .i64 0, .int .i64 0, .bool false]
abbrev SMin (W : World) (g o bM : Nat) (s m : Sbj) (w' : World) : Prop :=
  Below W.heap.size W w' ∧ w'.cell? ⟨g, o, none⟩ = some (.string s.key) ∧ w'.cell? ⟨g, o + 1, none⟩ = some (.int .i64 s.time) ∧ w'.cell? ⟨g, o + 2, none⟩ = some (.int .i64 s.arm) ∧ w'.cell? ⟨g, o + 3, none⟩ = some (.int .i64 s.count) ∧
  w'.cell? ⟨g, o + 4, none⟩ = some (.int .i64 s.sum) ∧ w'.cell? ⟨g, o + 5, none⟩ = some (.int .i64 s.early) ∧ w'.cell? ⟨g, o + 6, none⟩ = some (.int .i64 s.earlySum) ∧ w'.cell? ⟨g, o + 7, none⟩ = some (.bool s.closed) ∧
  w'.cell? ⟨bM, 0, none⟩ = some (.string m.key) ∧ w'.cell? ⟨bM, 1, none⟩ = some (.int .i64 m.time) ∧ w'.cell? ⟨bM, 2, none⟩ = some (.int .i64 m.arm) ∧ w'.cell? ⟨bM, 3, none⟩ = some (.int .i64 m.count) ∧
  w'.cell? ⟨bM, 4, none⟩ = some (.int .i64 m.sum) ∧ w'.cell? ⟨bM, 5, none⟩ = some (.int .i64 m.early) ∧ w'.cell? ⟨bM, 6, none⟩ = some (.int .i64 m.earlySum) ∧ w'.cell? ⟨bM, 7, none⟩ = some (.bool m.closed)
theorem SMin.ext {W w1 w2 : World} {g o bM : Nat} {s m : Sbj} (hb : Below w1.heap.size w1 w2) (h : SMin W g o bM s m w1) : SMin W g o bM s m w2 := by
  have hc : ∀ {p : Addr} {v : Value}, w1.cell? p = some v → w2.cell? p = some v := fun {p v} e => by
    rw [hb.cell (p := p) (World.block_lt_of_cell? _ _ e)]; exact e
  obtain ⟨h0, a0, a1, a2, a3, a4, a5, a6, a7, b0, b1, b2, b3, b4, b5, b6, b7⟩ := h
  exact ⟨ext_trans h0 hb, hc a0, hc a1, hc a2, hc a3, hc a4, hc a5, hc a6, hc a7, hc b0, hc b1, hc b2, hc b3, hc b4, hc b5, hc b6, hc b7⟩
theorem rh_sb {w : World} {b : Nat} {e : Sbj} {t : TypeId} (h : RH w b (sbC e) t) : w.cell? ⟨b, 0, none⟩ = some (.string e.key) ∧ w.cell? ⟨b, 1, none⟩ = some (.int .i64 e.time) ∧ w.cell? ⟨b, 2, none⟩ = some (.int .i64 e.arm) ∧ w.cell? ⟨b, 3, none⟩ = some (.int .i64 e.count) ∧
      w.cell? ⟨b, 4, none⟩ = some (.int .i64 e.sum) ∧ w.cell? ⟨b, 5, none⟩ = some (.int .i64 e.early) ∧ w.cell? ⟨b, 6, none⟩ = some (.int .i64 e.earlySum) ∧ w.cell? ⟨b, 7, none⟩ = some (.bool e.closed) :=
  ⟨h.cell 0, h.cell 1, h.cell 2, h.cell 3, h.cell 4, h.cell 5, h.cell 6, h.cell 7⟩
theorem cmpI_neg (a b : Int) : cmpI a b < 0 ↔ a < b := by
  unfold cmpI
  by_cases h1 : a < b
  · simp [h1]
  · by_cases h2 : b < a
    · simp [h1, h2]
    · simp [h1, h2]
theorem cmpI_pos (a b : Int) : 0 < cmpI a b ↔ b < a := by
  unfold cmpI
  by_cases h1 : a < b
  · simp [h1]; omega
  · by_cases h2 : b < a
    · simp [h1, h2]
    · simp [h1, h2]
/-- of two times the one that is kept: 'lo' the sooner one, else the later one -/
def leX (lo : Bool) (a b : Int) : Prop := if lo = true then a ≤ b else b ≤ a
set_option maxRecDepth 100000 in
set_option maxHeartbeats 16000000 in
theorem by_at (a b : Sbj) (w : World) :
    Calls Try.prog 26 #[.agg (sbC a), .agg (sbC b)] w fun e w' => e = .returned (.int .i64 (cmpI a.time b.time)) ∧ Below w.heap.size w w' := by
  go_enter Try.func26, Try.ntmps26
  go_upto_region 1 with (fail)
  refine wp_box2 fun W hsz hbW hA hB => ?_
  obtain ⟨g0, g1, g2, g3, g4, g5, g6, g7⟩ := box_sb hA
  obtain ⟨f0, f1, f2, f3, f4, f5, f6, f7⟩ := box_sb hB
  clear hsz
  go_wp2_with fail
  refine (cmp_int _ _ _).mono ?_
  rintro e w2 ⟨rfl, hw⟩
  subst hw
  go_wp2
  go_ret
  exact ⟨rfl, hbW⟩
set_option maxRecDepth 100000 in
set_option maxHeartbeats 16000000 in
theorem min_at (U : List Sbj) (h0 : 0 < U.length) (a : Option Addr) (c : Nat) (w : World) (hs : Sl w (.slice a U.length c) U.length (U.flatMap sbL)) :
    Calls Try.prog 28 #[.slice a U.length c, .func (.func 26) #[] #[]] w fun e w' => (∃ m, e = .returned (.agg (sbC m)) ∧ m ∈ U ∧ ∀ s ∈ U, leX true m.time s.time) ∧ Below w.heap.size w w' := by
  have hl := hs.len_le
  have HS := Lib.hid hs
  clear hs
  have hlt0 : ¬ ((U.length : Int) < 1) := by omega
  go_enter Try.func28, Try.ntmps28
  go_upto_region 1 with (fail)
  refine wp_rh1 fun W1 hsz1 hb1 hR1 => ?_
  have hne : w.heap.size < W1.heap.size := by omega
  have HNE := Lib.hid hne
  clear hsz1 hne
  have hg0 := List.getElem?_eq_getElem h0
  generalize U[0] = s0 at hg0
  obtain ⟨b, o, rfl, e0, e1, e2, e3, e4, e5, e6, e7⟩ := sb_cells (HS.out.ext hb1) hg0
  have hm0 : s0 ∈ U := List.mem_of_getElem? hg0
  have hk1 : (0 : Int) < (U.length : Int) := by omega
  simp only [Nat.zero_mul, Nat.add_zero] at e0 e1 e2 e3 e4 e5 e6 e7
  go_upto_region 4 with (fail)
  clear e0 e1 e2 e3 e4 e5 e6 e7
  refine wp_rh1 fun W2 hsz2 hb2 hM2 => ?_
  have hR2 := hR1.ext hb2
  have hbw2 := ext_trans hb1 hb2
  have hne := HNE.out
  clear HNE
  have HGE : Hid (∀ j s, j < 1 → U[j]? = some s → leX true s0.time s.time) := Lib.hid (fun j s hj hg => by
    obtain rfl : j = 0 := by omega
    rw [hg0] at hg; injection hg with hg; subst hg; unfold leX; split <;> exact Int.le_refl _)
  obtain ⟨bM, hbM⟩ : ∃ z, W1.heap.size = z := ⟨_, rfl⟩
  rw [hbM] at hM2 hne ⊢
  clear hb1 hb2 hR1 hsz2 hg0 hbM hk1
  go_wp2
  go_loopw [6] (fun i wr => ∃ (k : Nat) (m : Sbj), 1 ≤ k ∧ k ≤ U.length ∧ i = .int .i64 k ∧ m ∈ U ∧ Hid (∀ j s, j < k → U[j]? = some s → leX true m.time s.time) ∧ RH wr bM (sbC m) 32 ∧ RH wr w.heap.size zSb 32 ∧ Below w.heap.size w wr) (fun i _ => U.length - (intOf i).toNat)
  case atStart => exact ⟨1, s0, by omega, by omega, rfl, hm0, HGE, hM2, hR2, hbw2⟩
  case round =>
    clear hM2 hR2 hbw2 HGE hm0
    obtain ⟨k, m, hk1, hk, rfl, hmU, HG, hM, hR, hbr⟩ := hrel
    by_cases hlt : k < U.length
    · have hgk := List.getElem?_eq_getElem hlt
      generalize U[k] = s at hgk
      obtain ⟨b', o', hbo, e0, e1, e2, e3, e4, e5, e6, e7⟩ := sb_cells (HS.out.ext hbr) hgk
      cases hbo
      obtain ⟨m0, m1, m2, m3, m4, m5, m6, m7⟩ := rh_sb hM
      have hk0 : (0 : Int) ≤ (k : Int) := Int.natCast_nonneg _
      have hkl : (k : Int) < (U.length : Int) := by omega
      have hsU : s ∈ U := List.mem_of_getElem? hgk
      have HGK := Lib.hid hgk
      obtain ⟨z, hz⟩ : ∃ z, cmpI s.time m.time = z := ⟨_, rfl⟩
      have HZ := Lib.hid hz
      have HBY := Lib.hid (fun W9 => (by have h9 := by_at s m W9; rw [hz] at h9; exact h9 : Calls Try.prog 26 #[.agg (sbC s), .agg (sbC m)] W9 fun e w' => e = .returned (.int .i64 z) ∧ Below W9.heap.size W9 w'))
      clear hz hgk
      have HST : Hid (SMin wr b (o + k * 8) bM s m wr.drew) := Lib.hid ⟨(Below.refl _ _).drew, e0, e1, e2, e3, e4, e5, e6, e7, m0, m1, m2, m3, m4, m5, m6, m7⟩
      have hwk : IntKind.i64.wrap ((k : Int) + 1) = (k : Int) + 1 := by rw [IntKind.wrap_i64]; omega
      go_upto_region 7 with (fail)
      clear e0 e1 e2 e3 e4 e5 e6 e7 m0 m1 m2 m3 m4 m5 m6 m7
      go_region_held3 (SMin wr b (o + k * 8) bM s m) (first | exact HST.out | exact SMin.ext (by assumption) (by assumption) | assumption) (first | (refine (HBY.out _).mono ?_; rintro e w2 ⟨rfl, hb2⟩))
      have hS2 : SMin wr b (o + k * 8) bM s m w2 := by assumption
      have hbr2 := ext_trans hbr hS2.1
      have hM2 := hM.ext hS2.1
      have hR2 := hR.ext hS2.1
      obtain ⟨_, e0, e1, e2, e3, e4, e5, e6, e7, _⟩ := hS2
      clear hbr hM hR HST HBY
      by_cases hzn : z < 0
      · have HLT : Hid (s.time < m.time) := Lib.hid (by have h9 := HZ.out; rw [← h9] at hzn; simpa [cmpI_neg, cmpI_pos] using hzn)
        have hnm : w.heap.size ≠ bM := by omega
        have hR3 := hR2.row_other hnm (sbC s)
        have hM3 := hM2.row (sbC s)
        have hb3 := below_row hbr2 (Nat.le_of_lt hne) hM2 (A := sbC s)
        have HM2 : Hid (w2.heap[bM]? = some (.cells (sbC m) 32 (0, 0))) := Lib.hid hM2
        clear hR2 hbr2 hM2 hb2
        go_wp2_with ((with_reducible refine wpList_store_row ?_ 32 (.tmp 5) (.tmp 31) ?_ bM (sbC s) ?_ ?_ 32 (sbC m) HM2.out (sb_size s) ?_ (sb_all s) ?_); rfl; rfl; rfl; rfl; rfl)
        clear e0 e1 e2 e3 e4 e5 e6 e7 HM2
        generalize w2.setRow bM (sbC s) = w3 at hR3 hM3 hb3 ⊢
        go_wp2
        refine And.intro ?_ ?measure1
        · first
          | exact ⟨k + 1, s, by omega, by omega, by go_num, hsU, Lib.hid (fun j t hj ht => by
            by_cases e9 : j = k
            · subst e9; rw [HGK.out] at ht; injection ht with ht; subst ht; unfold leX; split <;> exact Int.le_refl _
            · have h9 := HG.out j t (by omega) ht
              have h8 := HLT.out
              unfold leX at h9 ⊢; simp only [if_true] at h9 ⊢; omega), hM3, hR3, hb3⟩
          | (repeat apply Exists.intro
             refine And.intro ?_ rfl
             exact ⟨k + 1, s, by omega, by omega, by go_num, hsU, Lib.hid (fun j t hj ht => by
            by_cases e9 : j = k
            · subst e9; rw [HGK.out] at ht; injection ht with ht; subst ht; unfold leX; split <;> exact Int.le_refl _
            · have h9 := HG.out j t (by omega) ht
              have h8 := HLT.out
              unfold leX at h9 ⊢; simp only [if_true] at h9 ⊢; omega), hM3, hR3, hb3⟩)
        case measure1 => simp [intOf]; omega
      · have HLT : Hid (¬ (s.time < m.time)) := Lib.hid (by have h9 := HZ.out; rw [← h9] at hzn; simpa [cmpI_neg, cmpI_pos] using hzn)
        have hzb : decide (z < 0) = false := decide_eq_false hzn
        clear hb2 e0 e1 e2 e3 e4 e5 e6 e7
        go_wp2
        refine And.intro ?_ ?measure2
        · first
          | exact ⟨k + 1, m, by omega, by omega, by go_num, hmU, Lib.hid (fun j t hj ht => by
            by_cases e9 : j = k
            · subst e9; rw [HGK.out] at ht; injection ht with ht; subst ht
              have h8 := HLT.out
              unfold leX; simp only [if_true]; omega
            · exact HG.out j t (by omega) ht), hM2, hR2, hbr2⟩
          | (repeat apply Exists.intro
             refine And.intro ?_ rfl
             exact ⟨k + 1, m, by omega, by omega, by go_num, hmU, Lib.hid (fun j t hj ht => by
            by_cases e9 : j = k
            · subst e9; rw [HGK.out] at ht; injection ht with ht; subst ht
              have h8 := HLT.out
              unfold leX; simp only [if_true]; omega
            · exact HG.out j t (by omega) ht), hM2, hR2, hbr2⟩)
        case measure2 => simp [intOf]; omega
    · have HALL : Hid (∀ s ∈ U, leX true m.time s.time) := Lib.hid (fun s hs => by
        obtain ⟨j, hj, rfl⟩ := List.getElem_of_mem hs
        exact HG.out j _ (by omega) (List.getElem?_eq_getElem hj))
      obtain ⟨m0, m1, m2, m3, m4, m5, m6, m7⟩ := rh_sb hM
      have HR2 : Hid (wr.heap[w.heap.size]? = some (.cells zSb 32 (0, 0))) := Lib.hid hR
      have hR3 := hR.row (sbC m)
      have hb3 := below_row hbr (Nat.le_refl _) hR (A := sbC m)
      clear hR hbr hM
      go_wp2_with ((with_reducible refine wpList_store_row ?_ 32 (.tmp 4) (.tmp 32) ?_ w.heap.size (sbC m) ?_ ?_ 32 zSb HR2.out (sb_size m) ?_ (sb_all m) ?_); rfl; rfl; rfl; rfl; rfl)
      clear m0 m1 m2 m3 m4 m5 m6 m7
      obtain ⟨c0, c1, c2, c3, c4, c5, c6, c7⟩ := rh_sb hR3
      generalize wr.setRow w.heap.size (sbC m) = w3 at c0 c1 c2 c3 c4 c5 c6 c7 hb3 ⊢
      exact bodyPost_ret (v := .agg (sbC m)) (by simp [results, Try.results28, go_sem, c0, c1, c2, c3, c4, c5, c6, c7]) rfl ⟨⟨m, rfl, hmU, HALL.out⟩, hb3⟩
set_option maxRecDepth 100000 in
set_option maxHeartbeats 16000000 in
theorem max_at (U : List Sbj) (h0 : 0 < U.length) (a : Option Addr) (c : Nat) (w : World) (hs : Sl w (.slice a U.length c) U.length (U.flatMap sbL)) :
    Calls Try.prog 29 #[.slice a U.length c, .func (.func 26) #[] #[]] w fun e w' => (∃ m, e = .returned (.agg (sbC m)) ∧ m ∈ U ∧ ∀ s ∈ U, leX false m.time s.time) ∧ Below w.heap.size w w' := by
  have hl := hs.len_le
  have HS := Lib.hid hs
  clear hs
  have hlt0 : ¬ ((U.length : Int) < 1) := by omega
  go_enter Try.func29, Try.ntmps29
  go_upto_region 1 with (fail)
  refine wp_rh1 fun W1 hsz1 hb1 hR1 => ?_
  have hne : w.heap.size < W1.heap.size := by omega
  have HNE := Lib.hid hne
  clear hsz1 hne
  have hg0 := List.getElem?_eq_getElem h0
  generalize U[0] = s0 at hg0
  obtain ⟨b, o, rfl, e0, e1, e2, e3, e4, e5, e6, e7⟩ := sb_cells (HS.out.ext hb1) hg0
  have hm0 : s0 ∈ U := List.mem_of_getElem? hg0
  have hk1 : (0 : Int) < (U.length : Int) := by omega
  simp only [Nat.zero_mul, Nat.add_zero] at e0 e1 e2 e3 e4 e5 e6 e7
  go_upto_region 4 with (fail)
  clear e0 e1 e2 e3 e4 e5 e6 e7
  refine wp_rh1 fun W2 hsz2 hb2 hM2 => ?_
  have hR2 := hR1.ext hb2
  have hbw2 := ext_trans hb1 hb2
  have hne := HNE.out
  clear HNE
  have HGE : Hid (∀ j s, j < 1 → U[j]? = some s → leX false s0.time s.time) := Lib.hid (fun j s hj hg => by
    obtain rfl : j = 0 := by omega
    rw [hg0] at hg; injection hg with hg; subst hg; unfold leX; split <;> exact Int.le_refl _)
  obtain ⟨bM, hbM⟩ : ∃ z, W1.heap.size = z := ⟨_, rfl⟩
  rw [hbM] at hM2 hne ⊢
  clear hb1 hb2 hR1 hsz2 hg0 hbM hk1
  go_wp2
  go_loopw [6] (fun i wr => ∃ (k : Nat) (m : Sbj), 1 ≤ k ∧ k ≤ U.length ∧ i = .int .i64 k ∧ m ∈ U ∧ Hid (∀ j s, j < k → U[j]? = some s → leX false m.time s.time) ∧ RH wr bM (sbC m) 32 ∧ RH wr w.heap.size zSb 32 ∧ Below w.heap.size w wr) (fun i _ => U.length - (intOf i).toNat)
  case atStart => exact ⟨1, s0, by omega, by omega, rfl, hm0, HGE, hM2, hR2, hbw2⟩
  case round =>
    clear hM2 hR2 hbw2 HGE hm0
    obtain ⟨k, m, hk1, hk, rfl, hmU, HG, hM, hR, hbr⟩ := hrel
    by_cases hlt : k < U.length
    · have hgk := List.getElem?_eq_getElem hlt
      generalize U[k] = s at hgk
      obtain ⟨b', o', hbo, e0, e1, e2, e3, e4, e5, e6, e7⟩ := sb_cells (HS.out.ext hbr) hgk
      cases hbo
      obtain ⟨m0, m1, m2, m3, m4, m5, m6, m7⟩ := rh_sb hM
      have hk0 : (0 : Int) ≤ (k : Int) := Int.natCast_nonneg _
      have hkl : (k : Int) < (U.length : Int) := by omega
      have hsU : s ∈ U := List.mem_of_getElem? hgk
      have HGK := Lib.hid hgk
      obtain ⟨z, hz⟩ : ∃ z, cmpI s.time m.time = z := ⟨_, rfl⟩
      have HZ := Lib.hid hz
      have HBY := Lib.hid (fun W9 => (by have h9 := by_at s m W9; rw [hz] at h9; exact h9 : Calls Try.prog 26 #[.agg (sbC s), .agg (sbC m)] W9 fun e w' => e = .returned (.int .i64 z) ∧ Below W9.heap.size W9 w'))
      clear hz hgk
      have HST : Hid (SMin wr b (o + k * 8) bM s m wr.drew) := Lib.hid ⟨(Below.refl _ _).drew, e0, e1, e2, e3, e4, e5, e6, e7, m0, m1, m2, m3, m4, m5, m6, m7⟩
      have hwk : IntKind.i64.wrap ((k : Int) + 1) = (k : Int) + 1 := by rw [IntKind.wrap_i64]; omega
      go_upto_region 7 with (fail)
      clear e0 e1 e2 e3 e4 e5 e6 e7 m0 m1 m2 m3 m4 m5 m6 m7
      go_region_held3 (SMin wr b (o + k * 8) bM s m) (first | exact HST.out | exact SMin.ext (by assumption) (by assumption) | assumption) (first | (refine (HBY.out _).mono ?_; rintro e w2 ⟨rfl, hb2⟩))
      have hS2 : SMin wr b (o + k * 8) bM s m w2 := by assumption
      have hbr2 := ext_trans hbr hS2.1
      have hM2 := hM.ext hS2.1
      have hR2 := hR.ext hS2.1
      obtain ⟨_, e0, e1, e2, e3, e4, e5, e6, e7, _⟩ := hS2
      clear hbr hM hR HST HBY
      by_cases hzn : 0 < z
      · have HLT : Hid (m.time < s.time) := Lib.hid (by have h9 := HZ.out; rw [← h9] at hzn; simpa [cmpI_neg, cmpI_pos] using hzn)
        have hnm : w.heap.size ≠ bM := by omega
        have hR3 := hR2.row_other hnm (sbC s)
        have hM3 := hM2.row (sbC s)
        have hb3 := below_row hbr2 (Nat.le_of_lt hne) hM2 (A := sbC s)
        have HM2 : Hid (w2.heap[bM]? = some (.cells (sbC m) 32 (0, 0))) := Lib.hid hM2
        clear hR2 hbr2 hM2 hb2
        go_wp2_with ((with_reducible refine wpList_store_row ?_ 32 (.tmp 5) (.tmp 31) ?_ bM (sbC s) ?_ ?_ 32 (sbC m) HM2.out (sb_size s) ?_ (sb_all s) ?_); rfl; rfl; rfl; rfl; rfl)
        clear e0 e1 e2 e3 e4 e5 e6 e7 HM2
        generalize w2.setRow bM (sbC s) = w3 at hR3 hM3 hb3 ⊢
        go_wp2
        refine And.intro ?_ ?measure1
        · first
          | exact ⟨k + 1, s, by omega, by omega, by go_num, hsU, Lib.hid (fun j t hj ht => by
            by_cases e9 : j = k
            · subst e9; rw [HGK.out] at ht; injection ht with ht; subst ht; unfold leX; split <;> exact Int.le_refl _
            · have h9 := HG.out j t (by omega) ht
              have h8 := HLT.out
              unfold leX at h9 ⊢; simp only [Bool.false_eq_true, if_false] at h9 ⊢; omega), hM3, hR3, hb3⟩
          | (repeat apply Exists.intro
             refine And.intro ?_ rfl
             exact ⟨k + 1, s, by omega, by omega, by go_num, hsU, Lib.hid (fun j t hj ht => by
            by_cases e9 : j = k
            · subst e9; rw [HGK.out] at ht; injection ht with ht; subst ht; unfold leX; split <;> exact Int.le_refl _
            · have h9 := HG.out j t (by omega) ht
              have h8 := HLT.out
              unfold leX at h9 ⊢; simp only [Bool.false_eq_true, if_false] at h9 ⊢; omega), hM3, hR3, hb3⟩)
        case measure1 => simp [intOf]; omega
      · have HLT : Hid (¬ (m.time < s.time)) := Lib.hid (by have h9 := HZ.out; rw [← h9] at hzn; simpa [cmpI_neg, cmpI_pos] using hzn)
        have hzb : decide (0 < z) = false := decide_eq_false hzn
        clear hb2 e0 e1 e2 e3 e4 e5 e6 e7
        go_wp2
        refine And.intro ?_ ?measure2
        · first
          | exact ⟨k + 1, m, by omega, by omega, by go_num, hmU, Lib.hid (fun j t hj ht => by
            by_cases e9 : j = k
            · subst e9; rw [HGK.out] at ht; injection ht with ht; subst ht
              have h8 := HLT.out
              unfold leX; simp only [Bool.false_eq_true, if_false]; omega
            · exact HG.out j t (by omega) ht), hM2, hR2, hbr2⟩
          | (repeat apply Exists.intro
             refine And.intro ?_ rfl
             exact ⟨k + 1, m, by omega, by omega, by go_num, hmU, Lib.hid (fun j t hj ht => by
            by_cases e9 : j = k
            · subst e9; rw [HGK.out] at ht; injection ht with ht; subst ht
              have h8 := HLT.out
              unfold leX; simp only [Bool.false_eq_true, if_false]; omega
            · exact HG.out j t (by omega) ht), hM2, hR2, hbr2⟩)
        case measure2 => simp [intOf]; omega
    · have HALL : Hid (∀ s ∈ U, leX false m.time s.time) := Lib.hid (fun s hs => by
        obtain ⟨j, hj, rfl⟩ := List.getElem_of_mem hs
        exact HG.out j _ (by omega) (List.getElem?_eq_getElem hj))
      obtain ⟨m0, m1, m2, m3, m4, m5, m6, m7⟩ := rh_sb hM
      have HR2 : Hid (wr.heap[w.heap.size]? = some (.cells zSb 32 (0, 0))) := Lib.hid hR
      have hR3 := hR.row (sbC m)
      have hb3 := below_row hbr (Nat.le_refl _) hR (A := sbC m)
      clear hR hbr hM
      go_wp2_with ((with_reducible refine wpList_store_row ?_ 32 (.tmp 4) (.tmp 32) ?_ w.heap.size (sbC m) ?_ ?_ 32 zSb HR2.out (sb_size m) ?_ (sb_all m) ?_); rfl; rfl; rfl; rfl; rfl)
      clear m0 m1 m2 m3 m4 m5 m6 m7
      obtain ⟨c0, c1, c2, c3, c4, c5, c6, c7⟩ := rh_sb hR3
      generalize wr.setRow w.heap.size (sbC m) = w3 at c0 c1 c2 c3 c4 c5 c6 c7 hb3 ⊢
      exact bodyPost_ret (v := .agg (sbC m)) (by simp [results, Try.results29, go_sem, c0, c1, c2, c3, c4, c5, c6, c7]) rfl ⟨⟨m, rfl, hmU, HALL.out⟩, hb3⟩
end Ex
end Go.Proofs.Ytacchooggifnhaa
namespace Go.Proofs.Ytacchooggifnhaa
namespace Ex
structure Vis where
  fr : Int
  to : Int
  n : Int
abbrev viC (v : Vis) : Array Value := #[.int .i64 v.fr, .int .i64 v.to, .int .i64 v.n]
def viL (v : Vis) : List Value := (viC v).toList
theorem viL_len (v : Vis) : (viL v).length = 3 := rfl
/-- one time more -/
def stepV (gap : Int) (acc : List Vis) (t : Int) : List Vis := match acc.getLast? with
  | none => [⟨t, t, 1⟩]
  | some v => if t - v.to ≤ gap then acc.dropLast ++ [⟨v.fr, t, v.n + 1⟩] else acc ++ [⟨t, t, 1⟩]
def visX (gap : Int) (ts : List Int) : List Vis := ts.foldl (stepV gap) []
theorem visX_take {gap : Int} {ts : List Int} {k : Nat} {t : Int} (h : ts[k]? = some t) : visX gap (ts.take (k + 1)) = stepV gap (visX gap (ts.take k)) t := by
  obtain ⟨hk, rfl⟩ := List.getElem?_eq_some_iff.1 h
  unfold visX
  rw [List.take_succ_eq_append_getElem hk, List.foldl_append]
  rfl
theorem snoc_of {α : Type} {l : List α} {x : α} (h : l.getLast? = some x) : l = l.dropLast ++ [x] := by
  obtain ⟨ys, rfl⟩ := List.getLast?_eq_some_iff.1 h
  simp
/-- what is true of visits -/
structure VisOk (gap : Int) (ts : List Int) (vs : List Vis) : Prop where
  each : ∀ v ∈ vs, v.fr ≤ v.to ∧ 1 ≤ v.n
  gaps : ∀ j a b, vs[j]? = some a → vs[j + 1]? = some b → gap < b.fr - a.to
  last : ∀ v, vs.getLast? = some v → ts.getLast? = some v.to
  none : vs = [] → ts = []
  sum : (vs.map (·.n)).sum = ts.length
theorem visOk_nil (gap : Int) : VisOk gap [] [] := ⟨(fun v h => by cases h), (fun j a b h => by simp at h), (fun v h => by simp at h), fun _ => rfl, rfl⟩
theorem visOk_step {gap : Int} {ts : List Int} {vs : List Vis} {t : Int} (h : VisOk gap ts vs) (hs : ∀ x ∈ ts, x ≤ t) : VisOk gap (ts ++ [t]) (stepV gap vs t) := by
  unfold stepV
  cases hl : vs.getLast? with
  | none =>
    have hv : vs = [] := List.getLast?_eq_none_iff.1 hl
    have ht := h.none hv
    subst hv; subst ht
    refine ⟨?_, ?_, ?_, ?_, rfl⟩
    · intro v hv; simp at hv; subst hv; exact ⟨Int.le_refl _, Int.le_refl _⟩
    · intro j a b ha hb; simp at hb
    · intro v hv; simp at hv; subst hv; rfl
    · intro e; simp at e
  | some v =>
    have hvs := snoc_of hl
    have hto := h.last v hl
    have hvm : v ∈ vs := List.mem_of_getLast? hl
    have hle : v.to ≤ t := hs _ (List.mem_of_getLast? hto)
    by_cases hg : t - v.to ≤ gap
    · simp only [if_pos hg]
      refine ⟨?_, ?_, ?_, ?_, ?_⟩
      · intro x hx
        rcases List.mem_append.1 hx with hx | hx
        · exact h.each x ((List.dropLast_sublist _).subset hx)
        · obtain rfl := List.mem_singleton.1 hx
          have := h.each v hvm
          exact ⟨by simp only; omega, by simp only; omega⟩
      · intro j a b ha hb
        have hlen : vs.length = vs.dropLast.length + 1 := by rw [List.length_dropLast]; have := List.length_pos_of_mem hvm; omega
        by_cases hj : j + 1 < vs.dropLast.length
        · rw [List.getElem?_append_left (by omega)] at ha hb
          refine h.gaps j a b ?_ ?_
          · rw [hvs, List.getElem?_append_left (by omega)]; exact ha
          · rw [hvs, List.getElem?_append_left hj]; exact hb
        · by_cases hj2 : j + 1 = vs.dropLast.length
          · rw [List.getElem?_append_left (by omega)] at ha
            rw [List.getElem?_append_right (by omega), hj2, Nat.sub_self] at hb
            have hb' : (⟨v.fr, t, v.n + 1⟩ : Vis) = b := by simpa using hb
            subst hb'
            refine h.gaps j a v ?_ ?_
            · rw [hvs, List.getElem?_append_left (by omega)]; exact ha
            · rw [hvs, List.getElem?_append_right (by omega), hj2, Nat.sub_self]; rfl
          · rw [List.getElem?_eq_none (by simp; omega)] at hb; cases hb
      · intro x hx; simp at hx; subst hx; simp
      · intro e; simp at e
      · have e1 := h.sum
        rw [hvs] at e1
        simp only [List.map_append, List.sum_append, List.map_cons, List.map_nil, List.sum_cons, List.sum_nil, List.length_append, List.length_cons, List.length_nil] at e1 ⊢
        omega
    · simp only [if_neg hg]
      refine ⟨?_, ?_, ?_, ?_, ?_⟩
      · intro x hx
        rcases List.mem_append.1 hx with hx | hx
        · exact h.each x hx
        · obtain rfl := List.mem_singleton.1 hx; exact ⟨Int.le_refl _, Int.le_refl _⟩
      · intro j a b ha hb
        by_cases hj : j + 1 < vs.length
        · rw [List.getElem?_append_left (by omega)] at ha hb
          exact h.gaps j a b ha hb
        · by_cases hj2 : j + 1 = vs.length
          · rw [List.getElem?_append_left (by omega)] at ha
            rw [List.getElem?_append_right (by omega), hj2, Nat.sub_self] at hb
            have hb' : (⟨t, t, 1⟩ : Vis) = b := by simpa using hb
            subst hb'
            rw [List.getLast?_eq_getElem?, ← hj2, Nat.add_sub_cancel, ha] at hl
            injection hl with hl
            subst hl
            simp only; omega
          · rw [List.getElem?_eq_none (by simp; omega)] at hb; cases hb
      · intro x hx; simp at hx; subst hx; simp
      · intro e; simp at e
      · have e1 := h.sum
        simp only [List.map_append, List.sum_append, List.map_cons, List.map_nil, List.sum_cons, List.sum_nil, List.length_append, List.length_cons, List.length_nil]
        omega
theorem visOk {gap : Int} : ∀ {ts : List Int}, ts.Pairwise (· ≤ ·) → VisOk gap ts (visX gap ts) := by
  intro ts h
  have key : ∀ k, k ≤ ts.length → VisOk gap (ts.take k) (visX gap (ts.take k)) := by
    intro k
    induction k with
    | zero => intro _; rw [List.take_zero]; exact visOk_nil gap
    | succ k ih =>
      intro hk
      have hg := List.getElem?_eq_getElem (show k < ts.length by omega)
      rw [visX_take hg, List.take_succ_eq_append_getElem (by omega)]
      refine visOk_step (ih (by omega)) fun x hx => ?_
      obtain ⟨i, hi, rfl⟩ := List.getElem_of_mem hx
      rw [List.getElem_take]
      rw [List.length_take] at hi
      exact List.pairwise_iff_getElem.1 h i k (by omega) (by omega) (by omega)
  have := key ts.length (Nat.le_refl _)
  rwa [List.take_length] at this
end Ex
end Go.Proofs.Ytacchooggifnhaa
