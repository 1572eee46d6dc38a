/- slices.IndexFunc, slices.DeleteFunc at subjects. Printed by gen_trl.py. Plain: exchanging, rotating and merging parts of an array. Plain: the merge by symmetric comparisons sorts. -/
import Derived.Test.YtemenlcigengeaaGreatDoorTq04
import Derived.Sort.LotA
import Derived.Sort.Lot0
namespace Go.Proofs.YtemenlcigengeaaGreatDoor
open Go.RowKit
namespace Tr
theorem zero_sbj (w : World) : (zeroValue 57).run Tryz.prog w = .ok (.agg #[.string ⟨#[]⟩, .int .i64 0, .int .i64 0, .int .i64 0, .int .i64 0, .int .i64 0, .int .i64 0, .bool false]) w := by kernel_rfl
theorem sb_size (s : Sbj) : (Tryz.prog.info? 57).map (·.size) = some (sbC s).size := by
  show (Tryz.prog.info? 57).map (·.size) = some 8
  kernel_rfl
theorem sb_all (s : Sbj) : (sbC s).all (·.oneCell') = true := by
  have := all_oneCell_toArray (sbL_one s)
  simpa [sbL] using this
set_option maxRecDepth 100000 in
set_option maxHeartbeats 16000000 in
theorem idx_at (U : List Sbj) (az ao : Int) (bZ bO : Nat) (a : Option Addr) (c : Nat) (w : World) (hZ : w.cell? ⟨bZ, 0, none⟩ = some (.int .i64 az)) (hO : w.cell? ⟨bO, 0, none⟩ = some (.int .i64 ao)) (hs : Sl w (.slice a U.length c) U.length (U.flatMap sbL)) :
    Calls Tryz.prog 61 #[.slice a U.length c, .func (.func 30) #[] #[.pointer (some ⟨bZ, 0, none⟩), .pointer (some ⟨bO, 0, none⟩)]] w fun e w' => Below w.heap.size w w' ∧ ∃ z, e = .returned (.int .i64 z) ∧ IdxIs az ao U z := by
  have hlA := World.block_lt_of_cell? _ _ hZ
  have hlB := World.block_lt_of_cell? _ _ hO
  have hl := hs.len_le
  have HS := Lib.hid hs
  have HCA := Lib.hid hZ
  have HCB := Lib.hid hO
  clear hs hZ hO
  go_enter Tryz.func61, Tryz.ntmps61
  go_wp2
  go_loopw [8] (fun i wr => ∃ k : Nat, k ≤ U.length ∧ i = .int .i64 k ∧ Hid (∀ j s, j < k → U[j]? = some s → keepB az ao s = true) ∧ Below w.heap.size w wr) (fun i _ => U.length - (intOf i).toNat)
  case atStart => exact ⟨0, by omega, rfl, Lib.hid (fun j s hj => by omega), Below.refl _ _⟩
  case round =>
    obtain ⟨k, hk, rfl, HK, hbr⟩ := hrel
    by_cases hlt : k < U.length
    · have hgk := List.getElem?_eq_getElem hlt
      generalize U[k] = s at hgk
      obtain ⟨b, o, rfl, e0, e1, e2, e3, e4, e5, e6, e7⟩ := sb_cells (HS.out.ext hbr) hgk
      have hk0 : (0 : Int) ≤ (k : Int) := Int.natCast_nonneg _
      have hk1 : (k : Int) < (U.length : Int) := by omega
      have hd1 := del1_at s az ao bZ bO wr (by rw [hbr.cell (p := ⟨bZ, 0, none⟩) hlA]; exact HCA.out) (by rw [hbr.cell (p := ⟨bO, 0, none⟩) hlB]; exact HCB.out)
      obtain ⟨kb, hkb⟩ : ∃ z, keepB az ao s = z := ⟨_, rfl⟩
      rw [hkb] at hd1
      have HKB := Lib.hid hkb
      have HG := Lib.hid hgk
      have HD := Lib.hid hd1
      clear hkb hgk hd1
      go_wp2_with fail
      refine HD.out.mono ?_
      rintro e w2 ⟨rfl, hb2⟩
      have hb3 := hbr.trans (hb2.mono hbr.size)
      clear e0 e1 e2 e3 e4 e5 e6 e7 HD hbr hb2
      cases kb
      · go_wp2
        go_ret
        exact ⟨hb3, k, rfl, .inr ⟨k, rfl, hlt, HK.out, s, HG.out, HKB.out⟩⟩
      · go_wp2
        go_roundw
        case rel => exact ⟨k + 1, by omega, by go_num, Lib.hid (fun j t hj ht => by
          by_cases e9 : j = k
          · subst e9
            rw [HG.out] at ht; injection ht with ht; subst ht; exact HKB.out
          · exact HK.out j t (by omega) ht), hb3⟩
        case measure => simp [intOf]; omega
    · go_wp2
      go_ret
      exact ⟨hbr, -1, rfl, .inl ⟨rfl, fun t ht => by
        obtain ⟨j, hj, rfl⟩ := List.getElem_of_mem ht
        exact HK.out j _ (by omega) (List.getElem?_eq_getElem hj)⟩⟩
set_option maxRecDepth 100000 in
set_option maxHeartbeats 16000000 in
theorem del_at (B : Nat) (U : List Sbj) (h20 : U.length ≤ 20000) (az ao : Int) (bZ bO : Nat) (v : Value) (w : World) (hZ : w.cell? ⟨bZ, 0, none⟩ = some (.int .i64 az)) (hO : w.cell? ⟨bO, 0, none⟩ = some (.int .i64 ao)) (hZB : bZ < B) (hOB : bO < B) (hB : B ≤ w.heap.size) (hown : w.ownsRow B 57 8 v U.length (U.flatMap sbL)) :
    Calls Tryz.prog 28 #[v, .func (.func 30) #[] #[.pointer (some ⟨bZ, 0, none⟩), .pointer (some ⟨bO, 0, none⟩)]] w fun e w' => Below B w w' ∧ ∃ v' n, e = .returned v' ∧ Hid ((U.filter (keepB az ao)).length = n) ∧ w'.ownsRow B 57 8 v' n ((U.filter (keepB az ao)).flatMap sbL) := by
  have hlA := World.block_lt_of_cell? _ _ hZ
  have hlB := World.block_lt_of_cell? _ _ hO
  obtain ⟨aU, cU, rfl⟩ : ∃ a9 c9, v = .slice a9 U.length c9 := by
    rcases hown.2 with ⟨rfl, h9⟩ | ⟨g, cap, cur, rfl, _⟩
    · exact ⟨none, 0, by rw [h9]⟩
    · exact ⟨_, _, rfl⟩
  have HI := Lib.hid (idx_at U az ao bZ bO aU cU w hZ hO (Sl.ofOwn hown))
  have HO := Lib.hid hown
  have HCA := Lib.hid hZ
  have HCB := Lib.hid hO
  clear hown hZ hO
  go_enter Tryz.func28, Tryz.ntmps28
  go_wp2_with fail
  refine HI.out.mono ?_
  rintro e w1 ⟨hb1, z, rfl, hz⟩
  have hoU := ownsRow_ext HO.out hb1
  rcases hz with ⟨rfl, hall⟩ | ⟨k0, rfl, hk0, hlow, s0, hs0, hks0⟩
  · have HP : Hid (Below B w w1 ∧ ∃ v' n, Ending.returned (.slice aU U.length cU) = .returned v' ∧ Hid ((U.filter (keepB az ao)).length = n) ∧ w1.ownsRow B 57 8 v' n ((U.filter (keepB az ao)).flatMap sbL)) := Lib.hid (by
      have e9 : U.filter (keepB az ao) = U := List.filter_eq_self.2 hall
      rw [e9]
      exact ⟨hb1.mono hB, _, _, rfl, rfl, hoU⟩)
    clear hb1 hoU HI HO HCA HCB hall
    go_wp2
    go_ret
    exact HP.out
  · have hbB := hb1.mono hB
    have HK0 : Hid (DelInv az ao U U k0 (k0 + 1)) := Lib.hid (DelInv.start hlow hs0 hks0)
    obtain ⟨g, cap, hgv, hgB⟩ := own_form hoU (by omega)
    obtain rfl : aU = some ⟨g, 0, none⟩ := by injection hgv
    obtain rfl : cU = cap := by injection hgv
    have hle0 : k0 + 1 ≤ U.length := hk0
    clear hgv hlow hs0 hks0 hk0 hb1 HI HO
    go_wp2
    go_loopw [5, 6, 7] (fun v5 v6 _ wr => ∃ (i j : Nat) (U' : List Sbj), v5 = .int .i64 i ∧ v6 = .int .i64 j ∧ i < j ∧ j ≤ U.length ∧ Hid (DelInv az ao U U' i j) ∧ wr.ownsRow B 57 8 (.slice (some ⟨g, 0, none⟩) U.length cU) U.length (U'.flatMap sbL) ∧ Below B w wr) (fun _ j _ _ => U.length - (intOf j).toNat)
    case atStart => exact ⟨k0, k0 + 1, U, rfl, by go_num, by omega, hle0, HK0, hoU, hbB⟩
    case round =>
      clear hoU hbB HK0 hle0
      obtain ⟨i, j, U', rfl, rfl, hij, hjl, HD, hoR, hbr⟩ := hrel
      have hi0 : (0 : Int) ≤ (i : Int) := Int.natCast_nonneg _
      have hi1 : (i : Int) < (U.length : Int) := by omega
      have hUl : U'.length = U.length := HD.out.len
      by_cases hlt : j < U.length
      · have hgk := List.getElem?_eq_getElem hlt
        generalize U[j] = s at hgk
        have hSR : Sl wr (.slice (some ⟨g, 0, none⟩) U.length cU) U.length (U'.flatMap sbL) := Sl.ofOwn hoR
        obtain ⟨b, o, hbo, e0, e1, e2, e3, e4, e5, e6, e7⟩ := sb_cells hSR (HD.out.get.trans hgk)
        cases hbo
        have hk0 : (0 : Int) ≤ (j : Int) := Int.natCast_nonneg _
        have hk1 : (j : Int) < (U.length : Int) := by omega
        simp only [Nat.zero_add] at e0 e1 e2 e3 e4 e5 e6 e7
        go_upto_region 8 with (fail)
        clear e0 e1 e2 e3 e4 e5 e6 e7 hSR
        refine wp_box1 fun X hszX hbX hX => ?_
        have hoX := ownsRow_ext hoR hbX
        have hbw := hbr.trans (hbX.mono (Nat.le_trans hB hbr.size))
        have hd1 := del1_at s az ao bZ bO X (by rw [hbw.cell (p := ⟨bZ, 0, none⟩) hZB]; exact HCA.out) (by rw [hbw.cell (p := ⟨bO, 0, none⟩) hOB]; exact HCB.out)
        obtain ⟨kb, hkb⟩ : ∃ z, keepB az ao s = z := ⟨_, rfl⟩
        rw [hkb] at hd1
        have HKB := Lib.hid hkb
        have HG := Lib.hid hgk
        have HDL := Lib.hid hd1
        obtain ⟨g0, g1, g2, g3, g4, g5, g6, g7⟩ := box_sb hX
        clear hkb hgk hd1 hoR hbr hszX
        go_wp2_with fail
        refine HDL.out.mono ?_
        rintro e w2 ⟨rfl, hb2⟩
        have hX2 := hX.ext hb2
        have ho2 := ownsRow_ext hoX hb2
        have hbw2 := hbw.trans (hb2.mono (Nat.le_trans hB hbw.size))
        clear hX hoX hbw hbX hb2 g0 g1 g2 g3 g4 g5 g6 g7 HDL
        obtain ⟨g0, g1, g2, g3, g4, g5, g6, g7⟩ := box_sb hX2
        cases kb
        · clear hX2 g0 g1 g2 g3 g4 g5 g6 g7
          go_wp2
          refine And.intro ?_ ?measure
          · repeat apply Exists.intro
            refine And.intro ?_ rfl
            exact ⟨i, j + 1, U', rfl, by go_num, by omega, by omega, Lib.hid (HD.out.skip HG.out HKB.out), ho2, hbw2⟩
          case measure => simp [intOf]; omega
        · have hth : w2.there g (i * 8) (sbC s).size := own_there ho2 (by rw [flat_length (f := sbL) (sz := 8) (fun _ => rfl), hUl, show (sbC s).size = 8 from rfl]; omega)
          have hp3 : (w2.setCells g (i * 8) (sbC s).toList).ownsRow B 57 8 (.slice (some ⟨g, 0, none⟩) U.length cU) U.length ((U'.set i s).flatMap sbL) := own_put (f := sbL) (fun _ => rfl) ho2 (by omega) s
          have hb3 : Below B w (w2.setCells g (i * 8) (sbC s).toList) := hbw2.trans (below_cells hgB _ _ _)
          clear hX2 ho2 hbw2
          go_wp2_with ((with_reducible refine wpList_store_mid ?_ 57 (.tmp 33) (.tmp 32) ?_ g (i * 8) (sbC s) ?_ ?_ hth (sb_size s) (sb_all s) ?_); rfl; rfl; rfl; rfl)
          clear hth g0 g1 g2 g3 g4 g5 g6 g7
          generalize w2.setCells g (i * 8) (sbC s).toList = w3 at hp3 hb3 ⊢
          go_wp2
          refine And.intro ?_ ?measure2
          · repeat apply Exists.intro
            refine And.intro ?_ rfl
            exact ⟨i + 1, j + 1, U'.set i s, by go_num, by go_num, by omega, by omega, Lib.hid (HD.out.keep HG.out HKB.out), hp3, hb3⟩
          case measure2 => simp [intOf]; omega
      · have hfin := HD.out.fin (by omega) (by omega)
        have hcl : ∀ ty, (Builtin.clear_ #[26] ty #[.slice (some ⟨g, i * 8, none⟩) (U.length - i) (cU - i)]).run Tryz.prog wr = .ok (.tuple #[]) (wr.setCells g (i * 8) (Builtin.zeroCells #[.string ⟨#[]⟩, .int .i64 0, .int .i64 0, .int .i64 0, .int .i64 0, .int .i64 0, .int .i64 0, .bool false] (U.length - i)).toList) := fun ty =>
          run_clear_own wr _ _ ty _ Tryz.underlying26 zero_sbj (by simp [Value.oneCell']) (by decide) g (i * 8) _ _ (by omega) (own_there hoR (by rw [flat_length (f := sbL) (sz := 8) (fun _ => rfl), hUl, show (#[Value.string ⟨#[]⟩, .int .i64 0, .int .i64 0, .int .i64 0, .int .i64 0, .int .i64 0, .int .i64 0, .bool false] : Array Value).size = 8 from rfl]; omega))
        have hlz : (Builtin.zeroCells #[Value.string ⟨#[]⟩, .int .i64 0, .int .i64 0, .int .i64 0, .int .i64 0, .int .i64 0, .int .i64 0, .bool false] (U.length - i)).toList.length = (U.length - i) * 8 := by simp [size_zeroCells]
        have hz1 := own_cut (own_setCells (Builtin.zeroCells #[Value.string ⟨#[]⟩, .int .i64 0, .int .i64 0, .int .i64 0, .int .i64 0, .int .i64 0, .int .i64 0, .bool false] (U.length - i)).toList (i * 8) wr _ hoR (by rw [hlz, flat_length (f := sbL) (sz := 8) (fun _ => rfl), hUl]; omega)) (i := i) (by omega)
        have hbz : Below B w (wr.setCells g (i * 8) (Builtin.zeroCells #[.string ⟨#[]⟩, .int .i64 0, .int .i64 0, .int .i64 0, .int .i64 0, .int .i64 0, .int .i64 0, .bool false] (U.length - i)).toList) := hbr.trans (below_cells hgB _ _ _)
        rw [List.append_assoc, List.take_append_of_le_length (by rw [List.length_take, flat_length (f := sbL) (sz := 8) (fun _ => rfl), hUl]; omega), List.take_take, Nat.min_self, flat_take (f := sbL) (sz := 8) (fun _ => rfl), hfin.1] at hz1
        generalize (Builtin.zeroCells #[Value.string ⟨#[]⟩, .int .i64 0, .int .i64 0, .int .i64 0, .int .i64 0, .int .i64 0, .int .i64 0, .bool false] (U.length - i)).toList = zs at hcl hz1 hbz
        generalize wr.setCells g (i * 8) zs = w3 at hcl hz1 hbz
        have hlc : U.length ≤ cU := by
          rcases hoR.2 with ⟨h9, _⟩ | ⟨g9, c9, u9, hv9, _, _, h9, _⟩
          · cases h9
          · cases hv9; exact h9
        have HP : Hid (Below B w w3 ∧ ∃ v' n, Ending.returned (.slice (some ⟨g, 0, none⟩) i cU) = .returned v' ∧ Hid ((U.filter (keepB az ao)).length = n) ∧ w3.ownsRow B 57 8 v' n ((U.filter (keepB az ao)).flatMap sbL)) := Lib.hid ⟨hbz, _, _, rfl, hfin.2, hz1⟩
        clear hz1 hbz hoR hbr HD hfin
        go_wp2
        go_ret
        exact HP.out
end Tr
end Go.Proofs.YtemenlcigengeaaGreatDoor
namespace Go.Proofs.YtemenlcigengeaaGreatDoor
namespace St
open Go.Sort
variable {α : Type} [Inhabited α]
/-- n places from a on, exchanged with those from b on -/
def rangeSwap (d : Array α) (a b : Nat) : Nat → Array α
  | 0 => d
  | k + 1 => swp (rangeSwap d a b k) (a + k) (b + k)
theorem rangeSwap_size (d : Array α) (a b n : Nat) : (rangeSwap d a b n).size = d.size := by
  induction n with
  | zero => rfl
  | succ k ih => rw [rangeSwap, size_swp, ih]
theorem rangeSwap_get (d : Array α) {a b n : Nat} (hab : a + n ≤ b) (hb : b + n ≤ d.size) : ∀ k, k ≤ n → ∀ x, (rangeSwap d a b k)[x]! = if a ≤ x ∧ x < a + k then d[x - a + b]! else if b ≤ x ∧ x < b + k then d[x - b + a]! else d[x]!
  | 0, _, x => by
    rw [if_neg (by omega), if_neg (by omega)]; rfl
  | k + 1, hk, x => by
    have ih := rangeSwap_get d hab hb k (by omega)
    have hs := rangeSwap_size d a b k
    rw [rangeSwap]
    by_cases h1 : x = a + k
    · subst h1
      rw [swp_left _ _ _ (by omega) (by omega), ih, if_neg (by omega), if_neg (by omega), if_pos (by omega)]
      congr 1; omega
    · by_cases h2 : x = b + k
      · subst h2
        rw [swp_right _ _ _ (by omega), ih, if_neg (by omega), if_neg (by omega), if_neg (by omega), if_pos (by omega)]
        congr 1; omega
      · rw [swp_other _ _ _ _ h1 h2, ih]
        (repeat' split) <;> first | rfl | omega | (congr 1; omega)
theorem rangeSwap_perm (d : Array α) {a b n lo hi : Nat} (hlo : lo ≤ a) (hlb : lo ≤ b) (ha : a + n ≤ hi) (hhi : b + n ≤ hi) (hs : hi ≤ d.size) : ∀ k, k ≤ n → PermIn lo hi d (rangeSwap d a b k)
  | 0, _ => permIn_refl _ _ _
  | k + 1, hk => permIn_trans _ _ _ _ _ (rangeSwap_perm d hlo hlb ha hhi hs k (by omega)) (swp_permIn _ _ _ _ _ (by omega) (by omega) (by omega) (by omega) (by rw [rangeSwap_size]; exact hs))
/-- The places of [m - i, m + j), the later ones first. -/
def Rot (m i j : Nat) (d d' : Array α) : Prop := PermIn (m - i) (m + j) d d' ∧ ∀ x, d'[x]! = if m - i ≤ x ∧ x < m - i + j then d[x + i]! else if m - i + j ≤ x ∧ x < m + j then d[x - j]! else d[x]!
theorem rot_eq (d : Array α) {m i : Nat} (hi : i ≤ m) (hm : m + i ≤ d.size) : Rot m i i d (rangeSwap d (m - i) m i) := by
  refine ⟨rangeSwap_perm d (Nat.le_refl _) (by omega) (by omega) (by omega) hm i (Nat.le_refl _), fun x => ?_⟩
  rw [rangeSwap_get d (by omega) (by omega) i (Nat.le_refl _)]
  (repeat' split) <;> first | rfl | omega | (congr 1; omega)
theorem rot_more (d d' : Array α) {m i j : Nat} (hi : i ≤ m) (hji : j < i) (hm : m + j ≤ d.size) (h : Rot m (i - j) j (rangeSwap d (m - i) m j) d') : Rot m i j d d' := by
  obtain ⟨h1, h2⟩ := h
  have hp := rangeSwap_perm d (a := m - i) (b := m) (n := j) (lo := m - i) (hi := m + j) (Nat.le_refl _) (by omega) (by omega) (Nat.le_refl _) hm j (Nat.le_refl _)
  refine ⟨permIn_trans _ _ _ _ _ hp (permIn_mono _ _ _ _ _ _ (by omega) (Nat.le_refl _) (by rw [rangeSwap_size]; exact hm) h1), fun x => ?_⟩
  have g := rangeSwap_get d (a := m - i) (b := m) (n := j) (by omega) hm j (Nat.le_refl _)
  rw [h2, g, g, g]
  (repeat' split) <;> first | rfl | omega | (congr 1; omega)
theorem rot_less (d d' : Array α) {m i j : Nat} (hi : i ≤ m) (h0 : 0 < i) (hij : i < j) (hm : m + j ≤ d.size) (h : Rot m i (j - i) (rangeSwap d (m - i) (m + j - i) i) d') : Rot m i j d d' := by
  obtain ⟨h1, h2⟩ := h
  have hp := rangeSwap_perm d (a := m - i) (b := m + j - i) (n := i) (lo := m - i) (hi := m + j) (Nat.le_refl _) (by omega) (by omega) (by omega) hm i (Nat.le_refl _)
  refine ⟨permIn_trans _ _ _ _ _ hp (permIn_mono _ _ _ _ _ _ (Nat.le_refl _) (by omega) (by rw [rangeSwap_size]; exact hm) h1), fun x => ?_⟩
  have g := rangeSwap_get d (a := m - i) (b := m + j - i) (n := i) (by omega) (by omega) i (Nat.le_refl _)
  rw [h2, g, g, g]
  (repeat' split) <;> first | rfl | omega | (congr 1; omega)
end St
end Go.Proofs.YtemenlcigengeaaGreatDoor
namespace Go.Proofs.YtemenlcigengeaaGreatDoor
namespace St
open Go.Sort
variable {α : Type} [Inhabited α] {lt : α → α → Bool}
omit [Inhabited α] in
theorem lt_le (hS : SWO lt) {x y z : α} (h1 : lt x y = true) (h2 : lt z y = false) : lt x z = true := by
  cases h : lt x z with
  | true => rfl
  | false => have := hS.ntrans x z y h h2; rw [h1] at this; cases this
omit [Inhabited α] in
theorem le_lt (hS : SWO lt) {x y z : α} (h1 : lt y x = false) (h2 : lt y z = true) : lt x z = true := by
  cases h : lt x z with
  | true => rfl
  | false => have := hS.ntrans y x z h1 h; rw [h2] at this; cases this
omit [Inhabited α] in
theorem asym (hS : SWO lt) {x y : α} (h : lt x y = true) : lt y x = false := by
  cases h2 : lt y x with
  | false => rfl
  | true => have := hS.trans x y x h h2; rw [hS.irrefl] at this; cases this
theorem sorted_le (hS : SWO lt) {d : Array α} {a b i j : Nat} (h : SortedIn lt a b d) (h1 : a ≤ i) (h2 : i ≤ j) (h3 : j < b) : lt d[j]! d[i]! = false := by
  rcases Nat.eq_or_lt_of_le h2 with e | e
  · subst e; exact hS.irrefl _
  · exact h i j h1 e h3
/-- d[a] moved k places up -/
def shiftUp (d : Array α) (a : Nat) : Nat → Array α
  | 0 => d
  | k + 1 => swp (shiftUp d a k) (a + k) (a + k + 1)
theorem shiftUp_size (d : Array α) (a n : Nat) : (shiftUp d a n).size = d.size := by
  induction n with
  | zero => rfl
  | succ k ih => rw [shiftUp, size_swp, ih]
theorem shiftUp_get (d : Array α) (a : Nat) : ∀ k, a + k < d.size → ∀ x, (shiftUp d a k)[x]! = if a ≤ x ∧ x < a + k then d[x + 1]! else if x = a + k then d[a]! else d[x]!
  | 0, _, x => by
    by_cases h : x = a
    · subst h; rw [if_neg (by omega), if_pos (by omega)]; rfl
    · rw [if_neg (by omega), if_neg (by omega)]; rfl
  | k + 1, hk, x => by
    have ih := shiftUp_get d a k (by omega)
    have hs := shiftUp_size d a k
    rw [shiftUp]
    by_cases h1 : x = a + k
    · subst h1
      rw [swp_left _ _ _ (by omega) (by omega), ih]
      (repeat' split) <;> first | rfl | omega | (congr 1; omega)
    · by_cases h2 : x = a + k + 1
      · subst h2
        rw [swp_right _ _ _ (by omega), ih]
        (repeat' split) <;> first | rfl | omega | (congr 1; omega)
      · rw [swp_other _ _ _ _ h1 h2, ih]
        (repeat' split) <;> first | rfl | omega | (congr 1; omega)
theorem shiftUp_perm (d : Array α) {a b : Nat} (hb : b ≤ d.size) : ∀ k, a + k < b → PermIn a b d (shiftUp d a k)
  | 0, _ => permIn_refl _ _ _
  | k + 1, hk => permIn_trans _ _ _ _ _ (shiftUp_perm d hb k (by omega)) (swp_permIn _ _ _ _ _ (by omega) (by omega) (by omega) (by omega) (by rw [shiftUp_size]; exact hb))
/-- d[m] moved k places down -/
def shiftDn (d : Array α) (m : Nat) : Nat → Array α
  | 0 => d
  | k + 1 => swp (shiftDn d m k) (m - k) (m - k - 1)
theorem shiftDn_size (d : Array α) (m n : Nat) : (shiftDn d m n).size = d.size := by
  induction n with
  | zero => rfl
  | succ k ih => rw [shiftDn, size_swp, ih]
theorem shiftDn_get (d : Array α) (m : Nat) (hm : m < d.size) : ∀ k, k ≤ m → ∀ x, (shiftDn d m k)[x]! = if m - k < x ∧ x ≤ m then d[x - 1]! else if x = m - k then d[m]! else d[x]!
  | 0, _, x => by
    by_cases h : x = m
    · subst h; rw [if_neg (by omega), if_pos (by omega)]; rfl
    · rw [if_neg (by omega), if_neg (by omega)]; rfl
  | k + 1, hk, x => by
    have ih := shiftDn_get d m hm k (by omega)
    have hs := shiftDn_size d m k
    rw [shiftDn]
    by_cases h1 : x = m - k
    · subst h1
      rw [swp_left _ _ _ (by omega) (by omega), ih]
      (repeat' split) <;> first | rfl | omega | (congr 1; omega)
    · by_cases h2 : x = m - k - 1
      · subst h2
        rw [swp_right _ _ _ (by omega), ih]
        (repeat' split) <;> first | rfl | omega | (congr 1; omega)
      · rw [swp_other _ _ _ _ h1 h2, ih]
        (repeat' split) <;> first | rfl | omega | (congr 1; omega)
theorem shiftDn_perm (d : Array α) {a b m : Nat} (hb : b ≤ d.size) (hm : m < b) : ∀ k, a + k ≤ m → PermIn a b d (shiftDn d m k)
  | 0, _ => permIn_refl _ _ _
  | k + 1, hk => permIn_trans _ _ _ _ _ (shiftDn_perm d hb hm k (by omega)) (swp_permIn _ _ _ _ _ (by omega) (by omega) (by omega) (by omega) (by rw [shiftDn_size]; exact hb))
/-- one element ahead of a sorted part -/
theorem merge_one_left (hS : SWO lt) {d : Array α} {a b i : Nat} (hb : b ≤ d.size) (h1 : a + 1 ≤ i) (h2 : i ≤ b) (hs : SortedIn lt (a + 1) b d) (hl : ∀ x, a + 1 ≤ x → x < i → lt d[x]! d[a]! = true) (hr : ∀ x, i ≤ x → x < b → lt d[x]! d[a]! = false) : SortedIn lt a b (shiftUp d a (i - 1 - a)) := by
  intro x y hx hxy hy
  rw [shiftUp_get d a _ (by omega), shiftUp_get d a _ (by omega)]
  by_cases cy : a ≤ y ∧ y < a + (i - 1 - a)
  · rw [if_pos cy, if_pos (by omega)]
    exact hs (x + 1) (y + 1) (by omega) (by omega) (by omega)
  · rw [if_neg cy]
    by_cases cy2 : y = a + (i - 1 - a)
    · rw [if_pos cy2, if_pos (by omega)]
      exact asym hS (hl (x + 1) (by omega) (by omega))
    · rw [if_neg cy2]
      by_cases cx : a ≤ x ∧ x < a + (i - 1 - a)
      · rw [if_pos cx]; exact hs (x + 1) y (by omega) (by omega) hy
      · rw [if_neg cx]
        by_cases cx2 : x = a + (i - 1 - a)
        · rw [if_pos cx2]; exact hr y (by omega) hy
        · rw [if_neg cx2]; exact hs x y (by omega) hxy hy
/-- one element behind a sorted part -/
theorem merge_one_right (hS : SWO lt) {d : Array α} {a m i : Nat} (hb : m + 1 ≤ d.size) (h1 : a ≤ i) (h2 : i ≤ m) (hs : SortedIn lt a m d) (hl : ∀ x, a ≤ x → x < i → lt d[m]! d[x]! = false) (hr : ∀ x, i ≤ x → x < m → lt d[m]! d[x]! = true) : SortedIn lt a (m + 1) (shiftDn d m (m - i)) := by
  intro x y hx hxy hy
  rw [shiftDn_get d m (by omega) _ (by omega), shiftDn_get d m (by omega) _ (by omega)]
  by_cases cy : m - (m - i) < y ∧ y ≤ m
  · rw [if_pos cy]
    by_cases cx : m - (m - i) < x ∧ x ≤ m
    · rw [if_pos cx]; exact hs (x - 1) (y - 1) (by omega) (by omega) (by omega)
    · rw [if_neg cx]
      by_cases cx2 : x = m - (m - i)
      · rw [if_pos cx2]; exact asym hS (hr (y - 1) (by omega) (by omega))
      · rw [if_neg cx2]; exact sorted_le hS hs hx (by omega) (by omega)
  · rw [if_neg cy]
    by_cases cy2 : y = m - (m - i)
    · rw [if_pos cy2]
      have cx : ¬ (m - (m - i) < x ∧ x ≤ m) := by omega
      rw [if_neg cx, if_neg (by omega)]; exact hl x hx (by omega)
    · rw [if_neg cy2]
      have cx : ¬ (m - (m - i) < x ∧ x ≤ m) := by omega
      rw [if_neg cx, if_neg (by omega)]; exact hs x y hx hxy (by omega)
/-- where the symmetric search begins and ends -/
def s0 (a m b : Nat) : Nat := if (a + b) / 2 < m then (a + b) / 2 + m - b else a
def r0 (a m b : Nat) : Nat := if (a + b) / 2 < m then (a + b) / 2 else m
structure Found (lt : α → α → Bool) (d : Array α) (a m b S : Nat) : Prop where
  lo : s0 a m b ≤ S
  hi : S ≤ r0 a m b
  left : ∀ x, s0 a m b ≤ x → x < S → lt d[(a + b) / 2 + m - 1 - x]! d[x]! = false
  right : ∀ x, S ≤ x → x < r0 a m b → lt d[(a + b) / 2 + m - 1 - x]! d[x]! = true
theorem bounds {a m b S : Nat} (_h1 : a < m) (h2 : m < b) (lo : s0 a m b ≤ S) (hi : S ≤ r0 a m b) : a ≤ S ∧ S ≤ m ∧ S ≤ (a + b) / 2 ∧ m ≤ (a + b) / 2 + m - S ∧ (a + b) / 2 ≤ (a + b) / 2 + m - S ∧ (a + b) / 2 + m - S ≤ b := by
  unfold s0 at lo
  unfold r0 at hi
  split at lo <;> split at hi <;> omega
/-- the two halves behind the rotation -/
structure Halves (lt : α → α → Bool) (d1 : Array α) (a mid b S E : Nat) : Prop where
  h1 : SortedIn lt a S d1
  h2 : SortedIn lt S mid d1
  h3 : SortedIn lt mid E d1
  h4 : SortedIn lt E b d1
  across : ∀ x y, a ≤ x → x < mid → mid ≤ y → y < b → lt d1[y]! d1[x]! = false
theorem halves (hS : SWO lt) {d d1 : Array α} {a m b S : Nat} (h1 : a < m) (h2 : m < b) (hF : Found lt d a m b S) (hL : SortedIn lt a m d) (hR : SortedIn lt m b d)
    (hd : ∀ x, d1[x]! = if S ≤ x ∧ x < (a + b) / 2 then d[x + (m - S)]! else if (a + b) / 2 ≤ x ∧ x < (a + b) / 2 + m - S then d[x - ((a + b) / 2 - S)]! else d[x]!) : Halves lt d1 a ((a + b) / 2) b S ((a + b) / 2 + m - S) := by
  obtain ⟨b1, b2, b3, b4, b5, b6⟩ := bounds h1 h2 hF.lo hF.hi
  refine ⟨?_, ?_, ?_, ?_, ?_⟩
  · intro x y hx hxy hy
    rw [hd, hd, if_neg (by omega), if_neg (by omega), if_neg (by omega), if_neg (by omega)]
    exact hL x y hx hxy (by omega)
  · intro x y hx hxy hy
    rw [hd, hd, if_pos (by omega), if_pos (by omega)]
    exact hR _ _ (by omega) (by omega) (by omega)
  · intro x y hx hxy hy
    rw [hd, hd, if_neg (by omega), if_pos (by omega), if_neg (by omega), if_pos (by omega)]
    exact hL _ _ (by omega) (by omega) (by omega)
  · intro x y hx hxy hy
    rw [hd, hd, if_neg (by omega), if_neg (by omega), if_neg (by omega), if_neg (by omega)]
    exact hR x y (by omega) hxy hy
  · intro x y hx hxm hy hyb
    rw [hd, hd, if_neg (by omega)]
    by_cases cx : S ≤ x ∧ x < (a + b) / 2
    · rw [if_pos cx]
      by_cases cy : (a + b) / 2 ≤ y ∧ y < (a + b) / 2 + m - S
      · rw [if_pos cy]
        have hSr : S < r0 a m b := by
          have := hF.hi
          unfold r0 at this ⊢
          split at this <;> rename_i hc
          · rw [if_pos hc]; omega
          · rw [if_neg hc]; omega
        have e1 := hF.right S (Nat.le_refl _) hSr
        have e2 : lt d[y - ((a + b) / 2 - S)]! d[S]! = false := sorted_le hS hL b1 (by omega) (by omega)
        have e3 : lt d[(a + b) / 2 + m - 1 - S]! d[x + (m - S)]! = false := sorted_le hS hR (by omega) (by omega) (by omega)
        exact asym hS (lt_le hS (le_lt hS e3 e1) e2)
      · rw [if_neg cy]
        exact sorted_le hS hR (by omega) (by omega) hyb
    · have cx2 : ¬ ((a + b) / 2 ≤ x ∧ x < (a + b) / 2 + m - S) := by omega
      rw [if_neg cx, if_neg cx2]
      by_cases cy : (a + b) / 2 ≤ y ∧ y < (a + b) / 2 + m - S
      · rw [if_pos cy]
        exact sorted_le hS hL hx (by omega) (by omega)
      · rw [if_neg cy]
        have hSl : s0 a m b < S := by
          have := hF.lo
          unfold s0 at this ⊢
          split at this <;> rename_i hc
          · rw [if_pos hc]; omega
          · rw [if_neg hc]; omega
        have e1 := hF.left (S - 1) (by omega) (by omega)
        have e2 : lt d[S - 1]! d[x]! = false := sorted_le hS hL hx (by omega) (by omega)
        have e3 : lt d[y]! d[(a + b) / 2 + m - 1 - (S - 1)]! = false := sorted_le hS hR (by omega) (by omega) hyb
        exact hS.ntrans _ _ _ e3 (hS.ntrans _ _ _ e1 e2)
/-- two sorted halves, the first not above the second -/
theorem join_halves {d1 d2 d3 : Array α} {a mid b : Nat} (hb : b ≤ d1.size) (_hm : a ≤ mid) (hmb : mid ≤ b) (hac : ∀ x y, a ≤ x → x < mid → mid ≤ y → y < b → lt d1[y]! d1[x]! = false)
    (p2 : PermIn a mid d1 d2) (s2 : SortedIn lt a mid d2) (p3 : PermIn mid b d2 d3) (s3 : SortedIn lt mid b d3) : SortedIn lt a b d3 := by
  have hb2 : b ≤ d2.size := by rw [p2.1]; exact hb
  have k1 : ∀ x, a ≤ x → x < mid → ∀ y, mid ≤ y → y < b → lt d2[y]! d2[x]! = false := fun x hx hxm y hy hyb => by
    have h := permIn_all d1 d2 a mid (fun u => lt d1[y]! u = false) (by omega) p2 (fun i hi hi2 => hac i y hi hi2 hy hyb) x hx hxm
    rw [p2.2.1 y (by omega)]; exact h
  have k2 : ∀ x, a ≤ x → x < mid → ∀ y, mid ≤ y → y < b → lt d3[y]! d3[x]! = false := fun x hx hxm y hy hyb => by
    have h := permIn_all d2 d3 mid b (fun u => lt u d2[x]! = false) hb2 p3 (fun i hi hi2 => k1 x hx hxm i hi hi2) y hy hyb
    rw [p3.2.1 x (by omega)]; exact h
  intro x y hx hxy hy
  rcases Nat.lt_or_ge y mid with h1 | h1
  · rw [p3.2.1 x (by omega), p3.2.1 y (by omega)]; exact s2 x y hx hxy h1
  · rcases Nat.lt_or_ge x mid with h2 | h2
    · exact k2 x hx h2 y h1 hy
    · exact s3 x y h2 hxy hy
end St
end Go.Proofs.YtemenlcigengeaaGreatDoor
