/- slices.Grow and slices.Concat at []api.Stretch. -/
import Derived.Test.YtiogfdkdhfmamaaGreatDoorProg
import Derived.Test.YtiogfdkdhfmamaaGreatDoorRb12
namespace Go.Proofs.YtiogfdkdhfmamaaGreatDoor
open Go.RowKit
namespace CCCatS
theorem e_bytes : Tryz.t33.bytes = 120 := by kernel_rfl
theorem e_info : (Tryz.prog.info? 33).map (fun i => (i.zero, i.size, i.bytes)) = some (some (.agg #[.int .i64 0, .int .i64 0, .int .i64 0, .slice none 0 0, .bool false, .int .i64 0, .int .i64 0, .int .i64 0, .slice none 0 0, .bool false, .bool false]), 11, 120) := by kernel_rfl
def cells (l : List Rg.SA) : List Value := l.flatMap Rg.saL
theorem cells_append (l m : List Rg.SA) : cells (l ++ m) = cells l ++ cells m := List.flatMap_append
theorem cells_length (l : List Rg.SA) : (cells l).length = l.length * 11 := flat_length (f := Rg.saL) (sz := 11) (fun _ => rfl) l
theorem cells_one (l : List Rg.SA) : ∀ u ∈ cells l, u.oneCell' = true := by
  intro u hu
  simp only [cells, List.mem_flatMap] at hu
  obtain ⟨x, _, hx⟩ := hu
  exact Rg.saL_one x u hx
/-- What Grow(nil, n) leaves: a new array with room for n elements. -/
def GrowPost (w : World) (n : Nat) (e : Ending) (w' : World) : Prop :=
  ∃ cap, e = .returned (.slice (some ⟨w.heap.size, 0, none⟩) 0 cap) ∧ n ≤ cap ∧ w'.ownsRow w.heap.size 33 11 (.slice (some ⟨w.heap.size, 0, none⟩) 0 cap) 0 [] ∧ Below w.heap.size w w'
theorem nextcap (n : Nat) (h : 0 < n) : Builtin.nextslicecap n 0 = n := by unfold Builtin.nextslicecap; rw [if_pos (by omega)]
theorem grow_post (w : World) (n cap : Nat) (hn : n ≤ cap) (hm : cap ≤ maxLen) :
    GrowPost w n (.returned (.slice (some ⟨w.heap.size, 0, none⟩) 0 cap)) (w.alloc (Obj.cells (Builtin.zeroCells #[.int .i64 0, .int .i64 0, .int .i64 0, .slice none 0 0, .bool false, .int .i64 0, .int .i64 0, .int .i64 0, .slice none 0 0, .bool false, .bool false] n ++ Builtin.zeroCells #[.int .i64 0, .int .i64 0, .int .i64 0, .slice none 0 0, .bool false, .int .i64 0, .int .i64 0, .int .i64 0, .slice none 0 0, .bool false, .bool false] (cap - n)) 33)).drew := by
  refine ⟨cap, rfl, hn, ?_, by go_grown⟩
  exact World.ownsRow.drew (World.ownsRow_made w _ cap (Nat.le_refl _) hm (by simp [size_zeroCells]; omega))
set_option maxHeartbeats 1000000 in
set_option maxRecDepth 100000 in
theorem grow_some (n : Nat) (hn : 0 < n) (hn' : n ≤ 2345624805922) (w : World) :
    Calls Tryz.prog 48 #[.slice none 0 0, .int .i64 n] w (GrowPost w n) := by
  have hb := e_bytes
  have hx := nextcap n hn
  have hc1 := grownCap_ge w n 0 33
  have hc2 := grownCap_le_maxLen w n 0 33 (by unfold maxLen; omega)
  unfold grownCap at hc1 hc2
  go_enter Tryz.func48, Tryz.ntmps48
  go_wp2
  all_goals first | (exfalso; simp_all; omega) | skip
  go_ret
  exact grow_post w n _ hc1 hc2
theorem grow_none (w : World) :
    Calls Tryz.prog 48 #[.slice none 0 0, .int .i64 0] w fun e w' => e = .returned (.slice none 0 0) ∧ w = w' := by
  go_enter Tryz.func48, Tryz.ntmps48
  go_wp2
  go_ret
  exact ⟨rfl, rfl⟩
def tot (L : Nat → Nat) : Nat → Nat
  | 0 => 0
  | k + 1 => tot L k + L k
def cat {α : Type} (ls : Nat → List α) : Nat → List α
  | 0 => []
  | k + 1 => cat ls k ++ ls k
theorem tot_mono (L : Nat → Nat) {j k : Nat} (h : j ≤ k) : tot L j ≤ tot L k := by
  induction h with
  | refl => exact Nat.le_refl _
  | step _ ih => exact Nat.le_trans ih (Nat.le_add_right _ _)
theorem cat_length {α : Type} (ls : Nat → List α) (L : Nat → Nat) (n : Nat) (h : ∀ i, i < n → (ls i).length = L i) : (cat ls n).length = tot L n := by
  induction n with
  | zero => rfl
  | succ k ih => simp only [cat, tot, List.length_append]; rw [ih (fun i hi => h i (by omega)), h k (by omega)]
def CatPost (w : World) (l : List Rg.SA) (e : Ending) (w' : World) : Prop :=
  ∃ a cap, e = .returned (.slice a l.length cap) ∧ Sl w' (.slice a l.length cap) l.length (cells l) ∧ w'.ownsRow w.heap.size 33 11 (.slice a l.length cap) l.length (cells l) ∧ Below w.heap.size w w'
set_option maxHeartbeats 1000000 in
set_option maxRecDepth 100000 in
theorem cat_any (b o n cap : Nat) (A : Nat → Option Addr) (L C : Nat → Nat) (ls : Nat → List Rg.SA) (w : World) (hn : n ≤ 9223372036854775807)
    (hcell : ∀ i, i < n → w.cell? ⟨b, o + i, none⟩ = some (.slice (A i) (L i) (C i)))
    (hsl : ∀ i, i < n → Sl w (.slice (A i) (L i) (C i)) (L i) (cells (ls i))) (hlen : ∀ i, i < n → (ls i).length = L i)
    (htot : tot L n ≤ 2345624805922) :
    Calls Tryz.prog 32 #[.slice (some ⟨b, o, none⟩) n cap] w (CatPost w (cat ls n)) := by
  have HC := Lib.hid hcell
  have HS := Lib.hid hsl
  have HL := Lib.hid hlen
  have HB := Lib.hid e_info
  clear hcell hsl hlen
  go_enter Tryz.func32, Tryz.ntmps32
  go_wp2
  go_loop [3, 5, 11] (fun t _ i => ∃ k : Nat, k ≤ n ∧ i = .int .i64 k ∧ t = .int .i64 (tot L k)) (fun _ _ i => n - (intOf i).toNat)
  case atStart => exact ⟨0, by omega, rfl, rfl⟩
  case round =>
    obtain ⟨k, hk, rfl, rfl⟩ := hrel
    have hm := tot_mono L hk
    by_cases hlt : k < n
    · have hc := HC.out k hlt
      have hm2 := tot_mono L (show k + 1 ≤ n by omega)
      simp only [tot] at hm2
      go_wp2
      go_round
      case rel => exact ⟨k + 1, by omega, by go_num, by simp only [tot]; go_num⟩
      case measure => simp [intOf]; omega
    · have hkn : k = n := by omega
      subst hkn
      by_cases h0 : 0 < tot L k
      · go_wp2_with fail
        refine (grow_some _ h0 htot _).mono ?_
        rintro e w1 ⟨cap1, rfl, hcap, hown, hb1⟩
        go_wp2
        go_loopw [6, 8, 27] (fun v _ i wr => ∃ j : Nat, j ≤ k ∧ i = .int .i64 j ∧ v = .slice (some ⟨w.heap.size, 0, none⟩) (tot L j) cap1 ∧ wr.ownsRow w.heap.size 33 11 (.slice (some ⟨w.heap.size, 0, none⟩) (tot L j) cap1) (tot L j) (cells (cat ls j)) ∧ Below w.heap.size w wr) (fun _ _ i _ => k - (intOf i).toNat)
        case atStart => exact ⟨0, by omega, rfl, rfl, hown, hb1⟩
        case round =>
          obtain ⟨j, hj, rfl, rfl, hownj, hbj⟩ := hrel
          by_cases hjk : j < k
          · have hc := cell_later hbj (HC.out j hjk)
            have hs := (HS.out j hjk).ext hbj
            have hlj := HL.out j hjk
            have hm2 := tot_mono L (show j + 1 ≤ k by omega)
            simp only [tot] at hm2
            have HLJ := Lib.hid hlj
            clear hlj
            go_wp2_with (at_builtin; refine wpList_append_spare_sl rfl _ _ 22 rfl w.heap.size 33 Tryz.underlying22 HB.out rfl hownj rfl hs ?c1 (cells_one _) ?c2 ?_; rotate_left 2; intro w2 hown2 hg2)
            case c1 => rw [cells_length, HLJ.out]
            case c2 => omega
            rw [← cells_append] at hown2
            have hb2 := hbj.grown hg2 hbj.size (fun k e => by cases e; exact Nat.le_refl _)
            go_wp2
            go_roundw
            case rel => exact ⟨j + 1, by omega, by go_num, rfl, hown2, hb2⟩
            case measure => simp [intOf]; omega
          · have hjk' : j = k := by omega
            subst hjk'
            have hcl := cat_length ls L j HL.out
            have HCL := Lib.hid hcl
            clear hcl
            go_wp2
            go_ret
            exact ⟨_, _, by rw [HCL.out]; rfl, by rw [HCL.out]; exact Sl.ofOwn hownj, by rw [HCL.out]; exact hownj, hbj⟩
      · have h00 : tot L k = 0 := by omega
        have HT := Lib.hid h00
        have ht0 : ((tot L k : Nat) : Int) = 0 := by omega
        clear h00
        rw [ht0]
        go_wp2_with fail
        refine (grow_none _).mono ?_
        rintro e w1 ⟨rfl, rfl⟩
        go_wp2
        go_loopw [6, 8, 27] (fun v _ i wr => ∃ j : Nat, j ≤ k ∧ i = .int .i64 j ∧ v = .slice none 0 0 ∧ Below w.heap.size w wr) (fun _ _ i _ => k - (intOf i).toNat)
        case atStart => exact ⟨0, by omega, rfl, rfl, Below.refl _ _⟩
        case round =>
          obtain ⟨j, hj, rfl, rfl, hbj⟩ := hrel
          by_cases hjk : j < k
          · have hc := cell_later hbj (HC.out j hjk)
            have hs := (HS.out j hjk).ext hbj
            have hlj := HL.out j hjk
            have hm2 := tot_mono L (show j + 1 ≤ k by omega)
            simp only [tot] at hm2
            have hL0 : L j = 0 := by have := HT.out; omega
            rw [hL0] at hc hs hlj
            have hl0 : ls j = [] := List.length_eq_zero_iff.1 hlj
            rw [hl0] at hs
            clear hlj hl0 hm2 hL0 ht0
            go_wp2_with (at_builtin; refine wpList_append_sl rfl _ _ 22 rfl w.heap.size 33 Tryz.underlying22 HB.out rfl (by decide) rfl (World.ownsRow_nil _ _ _ _) rfl hs rfl (by simp [cells]) (by decide) (by decide) hbj.size ?_; intro v2 w2 hown2 hg2 hv2)
            obtain rfl := hv2.2 ⟨rfl, rfl⟩
            have hb2 := hbj.grown hg2 hbj.size (fun k e => by cases e)
            go_wp2
            go_roundw
            case rel => exact ⟨j + 1, by omega, by go_num, rfl, hb2⟩
            case measure => simp [intOf]; omega
          · have hjk' : j = k := by omega
            subst hjk'
            have hcl := cat_length ls L j HL.out
            have hcn : cat ls j = [] := List.length_eq_zero_iff.1 (by rw [hcl]; exact HT.out)
            have HCN := Lib.hid hcn
            clear hcl hcn
            go_wp2
            go_ret
            exact ⟨none, 0, by rw [HCN.out]; rfl, by rw [HCN.out]; exact Sl.nil _, by rw [HCN.out]; exact World.ownsRow_nil _ _ _ _, hbj⟩
def pick2 {α : Type} (x y : α) : Nat → α
  | 0 => x
  | _ => y
theorem forall2 {p : Nat → Prop} (h0 : p 0) (h1 : p 1) : ∀ i, i < 2 → p i := by
  intro i hi
  obtain rfl | rfl : i = 0 ∨ i = 1 := by omega
  · exact h0
  · exact h1
theorem cat_two (b cap : Nat) (a0 a1 : Option Addr) (n0 n1 c0 c1 : Nat) (l0 l1 : List Rg.SA) (w : World)
    (h0 : w.cell? ⟨b, 0, none⟩ = some (.slice a0 n0 c0)) (h1 : w.cell? ⟨b, 1, none⟩ = some (.slice a1 n1 c1))
    (s0 : Sl w (.slice a0 n0 c0) n0 (cells l0)) (s1 : Sl w (.slice a1 n1 c1) n1 (cells l1))
    (e0 : l0.length = n0) (e1 : l1.length = n1) (ht : n0 + n1 ≤ 2345624805922) :
    Calls Tryz.prog 32 #[.slice (some ⟨b, 0, none⟩) 2 cap] w (CatPost w (l0 ++ l1)) := by
  have := cat_any b 0 2 cap (pick2 a0 a1) (pick2 n0 n1) (pick2 c0 c1) (pick2 l0 l1) w (by omega)
    (forall2 (p := fun i => w.cell? ⟨b, 0 + i, none⟩ = some (.slice (pick2 a0 a1 i) (pick2 n0 n1 i) (pick2 c0 c1 i))) h0 h1) (forall2 (p := fun i => Sl w (.slice (pick2 a0 a1 i) (pick2 n0 n1 i) (pick2 c0 c1 i)) (pick2 n0 n1 i) (cells (pick2 l0 l1 i))) s0 s1) (forall2 (p := fun i => (pick2 l0 l1 i).length = pick2 n0 n1 i) e0 e1) (by simp only [tot, pick2]; omega)
  simpa [cat, pick2] using this
end CCCatS
end Go.Proofs.YtiogfdkdhfmamaaGreatDoor
