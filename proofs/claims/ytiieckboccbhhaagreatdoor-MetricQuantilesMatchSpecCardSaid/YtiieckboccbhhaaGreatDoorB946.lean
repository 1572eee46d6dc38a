/- Between of package metric and of the reference. Printed by gen_btw.py. Quantile of the reference. Printed by gen_btw.py. The walk of MetricQuantilesMatchSpec. Printed by gen_lawtails.py. -/
import Derived.Test.YtiieckboccbhhaaGreatDoorB945
import Derived.Test.YtiieckboccbhhaaGreatDoorB900
import Derived.Test.YtiieckboccbhhaaGreatDoorB940
import Derived.Test.YtiieckboccbhhaaGreatDoorProg
import Derived.Test.YtiieckboccbhhaaGreatDoorB902
import Derived.Test.YtiieckboccbhhaaGreatDoorB903
import Derived.Test.YtiieckboccbhhaaGreatDoorB904
import Derived.Test.YtiieckboccbhhaaGreatDoorB905
import Derived.Test.YtiieckboccbhhaaGreatDoorB906
import Derived.Test.YtiieckboccbhhaaGreatDoorB907
import Derived.Test.YtiieckboccbhhaaGreatDoorB908
import Derived.Test.YtiieckboccbhhaaGreatDoorB909
import Derived.Test.YtiieckboccbhhaaGreatDoorB912
import Derived.Test.YtiieckboccbhhaaGreatDoorB913
import Derived.Test.YtiieckboccbhhaaGreatDoorB914
import Derived.Test.YtiieckboccbhhaaGreatDoorB922
import Derived.Test.YtiieckboccbhhaaGreatDoorB925
import Derived.Test.YtiieckboccbhhaaGreatDoorB932
import Derived.Test.YtiieckboccbhhaaGreatDoorB915
import Derived.Test.YtiieckboccbhhaaGreatDoorB916
import Derived.Test.YtiieckboccbhhaaGreatDoorB917
import Derived.Test.YtiieckboccbhhaaGreatDoorB918
import Derived.Test.YtiieckboccbhhaaGreatDoorB919
import Derived.Test.YtiieckboccbhhaaGreatDoorB920
import Derived.Test.YtiieckboccbhhaaGreatDoorB921
import Derived.Test.YtiieckboccbhhaaGreatDoorShelf
import Derived.Test.YtiieckboccbhhaaGreatDoorB923
import Derived.Test.YtiieckboccbhhaaGreatDoorB924
import Derived.Test.YtiieckboccbhhaaGreatDoorB933
import Derived.Test.YtiieckboccbhhaaGreatDoorB934
import Derived.Test.YtiieckboccbhhaaGreatDoorB930
import Derived.Test.YtiieckboccbhhaaGreatDoorB910
import Derived.Test.YtiieckboccbhhaaGreatDoorB935
import Derived.Test.YtiieckboccbhhaaGreatDoorB936
import Derived.Test.YtiieckboccbhhaaGreatDoorB927
import Derived.Test.YtiieckboccbhhaaGreatDoorB928
import Derived.Test.YtiieckboccbhhaaGreatDoorB929
import Derived.Test.YtiieckboccbhhaaGreatDoorB937
import Derived.Test.YtiieckboccbhhaaGreatDoorB938
namespace Go.Proofs.YtiieckboccbhhaaGreatDoor
open Go.RowKit
namespace Nm
open _root_.Go.Proofs.YtiieckboccbhhaaGreatDoor.Qt (sortI sortI_length icells icells_get sl_cells clone_ints sort_ints)
open _root_.Go.Proofs.YtiieckboccbhhaaGreatDoor.Nt (RH RH.cell RH.box RH.row RH.lt RH.new RH.ext RH.fre RH.set RH.other Tab Tab.ext refRanks_at wp_frs1 cs_other')
set_option maxRecDepth 100000 in
set_option maxHeartbeats 16000000 in
theorem metBetween_at (l : List Int) (s : Option Addr) (c : Nat) (m : Int) (a b : ByteArray) (ha : a.size ≤ maxLen) (hb : b.size ≤ maxLen) (w : World) (hs : Sl w (.slice s l.length c) l.length (icells l)) : Calls Tryz.prog 15 #[.slice s l.length c, .int .i64 m, .agg #[.string a, .string b]] w (RnPost w (btLo l m a b) (btHi l m a b) (btF l m a b)) := by
 have HSL := Lib.hid hs
 clear hs
 go_enter Tryz.func15, Tryz.ntmps15
 go_upto_region 1 with (fail)
 refine wp_frs1 fun w1' hbz hR0 => ?_
 have HR_a : Hid (RH w1' w.heap.size #[.string a, .string b] 23) := Lib.hid hR0
 have HW := Lib.hid hbz
 clear hbz hR0
 by_cases h0 : l.length = 0
 ·have hz : ((l.length : Int) == 0) = true := by rw [h0]; rfl
  have HN := Lib.hid (bt_none (m := m) (a := a) (b := b) h0)
  clear h0
  go_wp2
  exact bodyPost_ret (v := .tuple #[.int .i64 (0), .int .i64 (0), .int .i64 (9)]) (by simp [results, Tryz.results15, go_sem]) rfl ⟨by rw [HN.out.1, HN.out.2.1, HN.out.2.2], HW.out⟩
 ·have hz : ((l.length : Int) == 0) = false := beq_eq_false_iff_ne.2 (by omega)
  have H0 := Lib.hid h0
  clear h0
  obtain ⟨c_a_0, c_a_1⟩ := zs2 HR_a.out
  go_wp2_with fail
  refine (metRanks_at (l.length : Int) m a b ha hb w1').mono ?_
  rintro e w2' ⟨rfl, hbz⟩
  obtain ⟨f, hf⟩ : ∃ f, rnF (l.length : Int) m a b = f := ⟨_, rfl⟩
  obtain ⟨lo, hlo⟩ : ∃ f, rnLo (l.length : Int) m a b = f := ⟨_, rfl⟩
  obtain ⟨hi, hhi⟩ : ∃ f, rnHi (l.length : Int) m a b = f := ⟨_, rfl⟩
  rw [hf, hlo, hhi]
  have HF := Lib.hid (And.intro hf (And.intro hlo hhi))
  clear hf hlo hhi
  replace HR_a := Lib.hid (HR_a.out.ext hbz)
  replace HW := Lib.hid (ext_trans HW.out hbz)
  clear c_a_0 c_a_1
  clear hbz
  clear HR_a
  by_cases h1 : f = 0
  ·subst h1
   have hr := rn_range HF.out.1
   rw [HF.out.2.1, HF.out.2.2] at hr
   obtain ⟨⟨hl1, hl60⟩, ⟨hlo0, hlo1⟩, hhi0, hhi1⟩ := hr
   have hw1 : IntKind.i64.wrap ((l.length : Int) + 1) = (l.length : Int) + 1 := IntWalk.i64_in _ (by constructor <;> omega)
   by_cases h2 : lo = 0
   ·have hq1 : (lo == 0) = true := beq_iff_eq.2 h2
    have HN := Lib.hid (bt_out (l := l) (m := m) (a := a) (b := b) H0.out HF.out.1 (by rw [HF.out.2.1, HF.out.2.2]; exact .inl h2))
    go_wp2
    exact bodyPost_ret (v := .tuple #[.int .i64 (0), .int .i64 (0), .int .i64 (9)]) (by simp [results, Tryz.results15, go_sem]) rfl ⟨by rw [HN.out.1, HN.out.2.1, HN.out.2.2], HW.out⟩
   ·have hq1 : (lo == 0) = false := beq_eq_false_iff_ne.2 h2
    by_cases h3 : hi = (l.length : Int) + 1
    ·have hq2 : (hi == (l.length : Int) + 1) = true := beq_iff_eq.2 h3
     have H3 := Lib.hid h3
     clear h3
     have HN := Lib.hid (bt_out (l := l) (m := m) (a := a) (b := b) H0.out HF.out.1 (by rw [HF.out.2.1, HF.out.2.2]; exact .inr H3.out))
     go_wp2
     exact bodyPost_ret (v := .tuple #[.int .i64 (0), .int .i64 (0), .int .i64 (9)]) (by simp [results, Tryz.results15, go_sem]) rfl ⟨by rw [HN.out.1, HN.out.2.1, HN.out.2.2], HW.out⟩
    ·have hq2 : (hi == (l.length : Int) + 1) = false := beq_eq_false_iff_ne.2 h3
     obtain ⟨p, hp⟩ : ∃ p : Nat, lo = (p : Int) + 1 := ⟨(lo - 1).toNat, by omega⟩
     obtain ⟨r, hr⟩ : ∃ r : Nat, hi = (r : Int) + 1 := ⟨(hi - 1).toNat, by omega⟩
     have HOK := Lib.hid (bt_ok (l := l) (m := m) (a := a) (b := b) (p := p) (r := r) H0.out HF.out.1 (by rw [HF.out.2.1, hp]) (by rw [HF.out.2.2, hr]) (by omega))
     have hpl : p < l.length := by omega
     have hrl : r < l.length := by omega
     have hlk : l.length ≤ 20000 := by omega
     have hps : lo - 1 = (p : Int) := by omega
     have hrs : hi - 1 = (r : Int) := by omega
     have hlo60 : lo ≤ 60 := by omega
     have hhi60 : hi ≤ 60 := by omega
     have hp0 : (0 : Int) ≤ (p : Int) := Int.natCast_nonneg _
     have hr0 : (0 : Int) ≤ (r : Int) := Int.natCast_nonneg _
     have hp1 : (p : Int) < (l.length : Int) := by omega
     have hr1 : (r : Int) < (l.length : Int) := by omega
     clear hp hr h2 h3 hl1 hlo1 hhi1
     have le_w : w.heap.size ≤ w2'.heap.size := HW.out.size
     obtain ⟨gb, go, rfl, hc⟩ := sl_cells HSL.out (by simp [icells]; omega)
     have HCL : Hid (∀ i x, (icells l)[i]? = some x → w2'.cell? ⟨gb, go + i, none⟩ = some x) := Lib.hid (fun i x hx => (HW.out.cell (World.block_lt_of_cell? _ _ (hc i x hx))).trans (hc i x hx))
     clear hc
     go_wp2_with fail
     refine (clone_ints l hlk gb go c w2' HCL.out).mono ?_
     rintro e w3' ⟨v9, rfl, hown, hne9, hbz⟩
     have HOW := Lib.hid hown
     clear hown
     replace HW := Lib.hid (ext_trans HW.out hbz)
     clear hbz
     obtain ⟨gg, cap, hv9⟩ : ∃ gg cap, v9 = .slice (some ⟨gg, 0, none⟩) l.length cap := by
      rcases HOW.out.2 with ⟨hnil, _⟩ | ⟨g, cap, cur, hh, _⟩
      ·exact absurd hnil hne9
      ·exact ⟨g, cap, hh⟩
     subst hv9
     clear hne9
     go_wp2_with fail
     refine (sort_ints w2'.heap.size l hlk gg cap w3' HOW.out).mono ?_
     rintro e w4' ⟨rfl, hown2, hg2⟩
     have HW3 : Hid (Below w.heap.size w w4') := Lib.hid (HW.out.grown hg2 HW.out.size (fun q e => by have h9 := (HOW.out.lt q e).1; have h8 := le_w; omega))
     have hlt9 : ∀ k, k < l.length → k < (sortI l).length := fun k hk => by rw [sortI_length]; exact hk
     have h01 : 0 < (icells (sortI l)).length := by unfold icells; rw [List.length_map]; exact Nat.lt_of_le_of_lt (Nat.zero_le _) (hlt9 p hpl)
     obtain ⟨g', o', eg, HG⟩ := sl_cells (Sl.ofOwn hown2) h01
     cases eg
     have hcp := HG p _ (icells_get (hlt9 p hpl))
     have hcr := HG r _ (icells_get (hlt9 r hrl))
     rw [show (sortI l)[p]'(hlt9 p hpl) = (sortI l).getD p 0 by simp [List.getD, List.getElem?_eq_getElem (hlt9 p hpl)], Nat.zero_add] at hcp
     rw [show (sortI l)[r]'(hlt9 r hrl) = (sortI l).getD r 0 by simp [List.getD, List.getElem?_eq_getElem (hlt9 r hrl)], Nat.zero_add] at hcr
     obtain ⟨x, hx⟩ : ∃ x, (sortI l).getD p 0 = x := ⟨_, rfl⟩
     obtain ⟨y, hy⟩ : ∃ y, (sortI l).getD r 0 = y := ⟨_, rfl⟩
     rw [hx] at hcp
     rw [hy] at hcr
     rw [hx, hy] at HOK
     clear hx hy HG hown2 hg2 HOW HCL HW hlt9
     have HW := HW3
     clear HW3
     go_wp2_with fail
     go_quiet (fail)
     replace HW := Lib.hid (below_drewN HW.out nq)
     go_wp2
     exact bodyPost_ret (v := .tuple #[.int .i64 (x), .int .i64 (y), .int .i64 (0)]) (by simp [results, Tryz.results15, go_sem]) rfl ⟨by rw [HOK.out.1, HOK.out.2.1, HOK.out.2.2], HW.out⟩
  ·have HN := Lib.hid (bt_bad (l := l) (m := m) (a := a) (b := b) H0.out (by rw [HF.out.1]; exact h1))
   have hne : (f != 0) = true := by simpa using h1
   go_wp2
   exact bodyPost_ret (v := .tuple #[.int .i64 (0), .int .i64 (0), .int .i64 (f)]) (by simp [results, Tryz.results15, go_sem]) rfl ⟨by rw [HN.out.1, HN.out.2.1, HN.out.2.2, HF.out.1], HW.out⟩
set_option maxRecDepth 100000 in
set_option maxHeartbeats 16000000 in
theorem refBetween_at (l : List Int) (s : Option Addr) (c : Nat) (m : Int) (a b : ByteArray) (ha : a.size ≤ maxLen) (hb : b.size ≤ maxLen) (w : World) (hs : Sl w (.slice s l.length c) l.length (icells l)) (ht : Tab w) : Calls Tryz.prog 16 #[.slice s l.length c, .int .i64 m, .agg #[.string a, .string b]] w (RnPost w (btLo l m a b) (btHi l m a b) (btF l m a b)) := by
 have HSL := Lib.hid hs
 clear hs
 go_enter Tryz.func16, Tryz.ntmps16
 have HT0 := Lib.hid ht
 clear ht
 go_upto_region 1 with (fail)
 refine wp_frs1 fun w1' hbz hR0 => ?_
 have HR_a : Hid (RH w1' w.heap.size #[.string a, .string b] 23) := Lib.hid hR0
 have HW := Lib.hid hbz
 clear hbz hR0
 by_cases h0 : l.length = 0
 ·have hz : ((l.length : Int) == 0) = true := by rw [h0]; rfl
  have HN := Lib.hid (bt_none (m := m) (a := a) (b := b) h0)
  clear h0
  go_wp2
  exact bodyPost_ret (v := .tuple #[.int .i64 (0), .int .i64 (0), .int .i64 (9)]) (by simp [results, Tryz.results16, go_sem]) rfl ⟨by rw [HN.out.1, HN.out.2.1, HN.out.2.2], HW.out⟩
 ·have hz : ((l.length : Int) == 0) = false := beq_eq_false_iff_ne.2 (by omega)
  have H0 := Lib.hid h0
  clear h0
  obtain ⟨c_a_0, c_a_1⟩ := zs2 HR_a.out
  go_wp2_with fail
  refine (refRanks_at (l.length : Int) m a b ha hb w1' (HT0.out.ext HW.out)).mono ?_
  rintro e w2' ⟨rfl, hbz⟩
  obtain ⟨f, hf⟩ : ∃ f, rnF (l.length : Int) m a b = f := ⟨_, rfl⟩
  obtain ⟨lo, hlo⟩ : ∃ f, rnLo (l.length : Int) m a b = f := ⟨_, rfl⟩
  obtain ⟨hi, hhi⟩ : ∃ f, rnHi (l.length : Int) m a b = f := ⟨_, rfl⟩
  rw [hf, hlo, hhi]
  have HF := Lib.hid (And.intro hf (And.intro hlo hhi))
  clear hf hlo hhi
  replace HR_a := Lib.hid (HR_a.out.ext hbz)
  replace HW := Lib.hid (ext_trans HW.out hbz)
  clear c_a_0 c_a_1
  clear hbz
  clear HR_a
  by_cases h1 : f = 0
  ·subst h1
   have hr := rn_range HF.out.1
   rw [HF.out.2.1, HF.out.2.2] at hr
   obtain ⟨⟨hl1, hl60⟩, ⟨hlo0, hlo1⟩, hhi0, hhi1⟩ := hr
   have hw1 : IntKind.i64.wrap ((l.length : Int) + 1) = (l.length : Int) + 1 := IntWalk.i64_in _ (by constructor <;> omega)
   by_cases h2 : lo = 0
   ·have hq1 : (lo == 0) = true := beq_iff_eq.2 h2
    have HN := Lib.hid (bt_out (l := l) (m := m) (a := a) (b := b) H0.out HF.out.1 (by rw [HF.out.2.1, HF.out.2.2]; exact .inl h2))
    go_wp2
    exact bodyPost_ret (v := .tuple #[.int .i64 (0), .int .i64 (0), .int .i64 (9)]) (by simp [results, Tryz.results16, go_sem]) rfl ⟨by rw [HN.out.1, HN.out.2.1, HN.out.2.2], HW.out⟩
   ·have hq1 : (lo == 0) = false := beq_eq_false_iff_ne.2 h2
    by_cases h3 : hi = (l.length : Int) + 1
    ·have hq2 : (hi == (l.length : Int) + 1) = true := beq_iff_eq.2 h3
     have H3 := Lib.hid h3
     clear h3
     have HN := Lib.hid (bt_out (l := l) (m := m) (a := a) (b := b) H0.out HF.out.1 (by rw [HF.out.2.1, HF.out.2.2]; exact .inr H3.out))
     go_wp2
     exact bodyPost_ret (v := .tuple #[.int .i64 (0), .int .i64 (0), .int .i64 (9)]) (by simp [results, Tryz.results16, go_sem]) rfl ⟨by rw [HN.out.1, HN.out.2.1, HN.out.2.2], HW.out⟩
    ·have hq2 : (hi == (l.length : Int) + 1) = false := beq_eq_false_iff_ne.2 h3
     obtain ⟨p, hp⟩ : ∃ p : Nat, lo = (p : Int) + 1 := ⟨(lo - 1).toNat, by omega⟩
     obtain ⟨r, hr⟩ : ∃ r : Nat, hi = (r : Int) + 1 := ⟨(hi - 1).toNat, by omega⟩
     have HOK := Lib.hid (bt_ok (l := l) (m := m) (a := a) (b := b) (p := p) (r := r) H0.out HF.out.1 (by rw [HF.out.2.1, hp]) (by rw [HF.out.2.2, hr]) (by omega))
     have hpl : p < l.length := by omega
     have hrl : r < l.length := by omega
     have hlk : l.length ≤ 20000 := by omega
     have hps : lo - 1 = (p : Int) := by omega
     have hrs : hi - 1 = (r : Int) := by omega
     have hlo60 : lo ≤ 60 := by omega
     have hhi60 : hi ≤ 60 := by omega
     have hp0 : (0 : Int) ≤ (p : Int) := Int.natCast_nonneg _
     have hr0 : (0 : Int) ≤ (r : Int) := Int.natCast_nonneg _
     have hp1 : (p : Int) < (l.length : Int) := by omega
     have hr1 : (r : Int) < (l.length : Int) := by omega
     clear hp hr h2 h3 hl1 hlo1 hhi1
     have le_w : w.heap.size ≤ w2'.heap.size := HW.out.size
     obtain ⟨gb, go, rfl, hc⟩ := sl_cells HSL.out (by simp [icells]; omega)
     have HCL : Hid (∀ i x, (icells l)[i]? = some x → w2'.cell? ⟨gb, go + i, none⟩ = some x) := Lib.hid (fun i x hx => (HW.out.cell (World.block_lt_of_cell? _ _ (hc i x hx))).trans (hc i x hx))
     clear hc
     go_wp2_with fail
     refine (clone_ints l hlk gb go c w2' HCL.out).mono ?_
     rintro e w3' ⟨v9, rfl, hown, hne9, hbz⟩
     have HOW := Lib.hid hown
     clear hown
     replace HW := Lib.hid (ext_trans HW.out hbz)
     clear hbz
     obtain ⟨gg, cap, hv9⟩ : ∃ gg cap, v9 = .slice (some ⟨gg, 0, none⟩) l.length cap := by
      rcases HOW.out.2 with ⟨hnil, _⟩ | ⟨g, cap, cur, hh, _⟩
      ·exact absurd hnil hne9
      ·exact ⟨g, cap, hh⟩
     subst hv9
     clear hne9
     go_wp2_with fail
     refine (sort_ints w2'.heap.size l hlk gg cap w3' HOW.out).mono ?_
     rintro e w4' ⟨rfl, hown2, hg2⟩
     have HW3 : Hid (Below w.heap.size w w4') := Lib.hid (HW.out.grown hg2 HW.out.size (fun q e => by have h9 := (HOW.out.lt q e).1; have h8 := le_w; omega))
     have hlt9 : ∀ k, k < l.length → k < (sortI l).length := fun k hk => by rw [sortI_length]; exact hk
     have h01 : 0 < (icells (sortI l)).length := by unfold icells; rw [List.length_map]; exact Nat.lt_of_le_of_lt (Nat.zero_le _) (hlt9 p hpl)
     obtain ⟨g', o', eg, HG⟩ := sl_cells (Sl.ofOwn hown2) h01
     cases eg
     have hcp := HG p _ (icells_get (hlt9 p hpl))
     have hcr := HG r _ (icells_get (hlt9 r hrl))
     rw [show (sortI l)[p]'(hlt9 p hpl) = (sortI l).getD p 0 by simp [List.getD, List.getElem?_eq_getElem (hlt9 p hpl)], Nat.zero_add] at hcp
     rw [show (sortI l)[r]'(hlt9 r hrl) = (sortI l).getD r 0 by simp [List.getD, List.getElem?_eq_getElem (hlt9 r hrl)], Nat.zero_add] at hcr
     obtain ⟨x, hx⟩ : ∃ x, (sortI l).getD p 0 = x := ⟨_, rfl⟩
     obtain ⟨y, hy⟩ : ∃ y, (sortI l).getD r 0 = y := ⟨_, rfl⟩
     rw [hx] at hcp
     rw [hy] at hcr
     rw [hx, hy] at HOK
     clear hx hy HG hown2 hg2 HOW HCL HW hlt9
     have HW := HW3
     clear HW3
     go_wp2_with fail
     go_quiet (fail)
     replace HW := Lib.hid (below_drewN HW.out nq)
     go_wp2
     exact bodyPost_ret (v := .tuple #[.int .i64 (x), .int .i64 (y), .int .i64 (0)]) (by simp [results, Tryz.results16, go_sem]) rfl ⟨by rw [HOK.out.1, HOK.out.2.1, HOK.out.2.2], HW.out⟩
  ·have HN := Lib.hid (bt_bad (l := l) (m := m) (a := a) (b := b) H0.out (by rw [HF.out.1]; exact h1))
   have hne : (f != 0) = true := by simpa using h1
   go_wp2
   exact bodyPost_ret (v := .tuple #[.int .i64 (0), .int .i64 (0), .int .i64 (f)]) (by simp [results, Tryz.results16, go_sem]) rfl ⟨by rw [HN.out.1, HN.out.2.1, HN.out.2.2, HF.out.1], HW.out⟩
end Nm
end Go.Proofs.YtiieckboccbhhaaGreatDoor
namespace Go.Proofs.YtiieckboccbhhaaGreatDoor
open Go.RowKit Go.Sort
namespace Qt
set_option maxHeartbeats 1000000 in
theorem rquantile_ok (l : List Int) (b o c m : Nat) (w : World) (_hs : Sl w (.slice (some ⟨b, o, none⟩) l.length c) l.length (icells l)) (h0 : 0 < l.length) (hl : l.length ≤ 20000) (h1 : 1 ≤ m) (h2 : m ≤ 1000)
  (hc : ∀ i x, (icells l)[i]? = some x → w.cell? ⟨b, o + i, none⟩ = some x) :
  Calls Tryz.prog 14 #[.slice (some ⟨b, o, none⟩) l.length c, .int .i64 m] w fun e w' => e = .returned (.tuple #[.int .i64 ((sortI l).getD (rankQ (l.length * m)) 0), .int .i64 0]) ∧ Below w.heap.size w w' := by
 have HC := Lib.hid hc
 have HR := Lib.hid (rankQ_lt h0 h1 h2)
 have hp1 : l.length * m ≤ 20000000 := by
  have := Nat.mul_le_mul hl h2; omega
 have hp0 : 1 ≤ l.length * m := Nat.mul_pos h0 h1
 obtain ⟨p, hp⟩ : ∃ p, l.length * m = p := ⟨_, rfl⟩
 have hpi : (l.length : Int) * (m : Int) = (p : Int) := by rw [← hp]; push_cast; rfl
 rw [hp] at hp1 hp0
 rw [hp]
 have HR2 : Hid (rankQ p < l.length) := by have := HR.out; rw [hp] at this; exact this
 clear hc hp HR
 go_enter Tryz.func14, Tryz.ntmps14
 have hm1 : ¬ (m : Int) < 1 := by omega
 have hm2 : ¬ (1000 : Int) < (m : Int) := by omega
 have hz : ((l.length : Int) == 0) = false := beq_eq_false_iff_ne.2 (by omega)
 go_wp2_with fail
 refine (clone_ints l hl b o c w HC.out).mono ?_
 rintro e w1 ⟨v', rfl, hown, hne, hb1⟩
 rcases hown.2 with ⟨hnil, _⟩ | ⟨g, cap, cur, rfl, hbase, hb, _, _, _, _⟩
 ·exact absurd hnil hne
 clear hb hne
 go_wp2_with fail
 refine (sort_ints w.heap.size l hl g cap w1 hown).mono ?_
 rintro e w2 ⟨rfl, hown2, hg2⟩
 have hb2 := hb1.grown hg2 hb1.size (fun k e => by cases e; exact hbase)
 have hlt : rankQ p < (sortI l).length := by rw [sortI_length]; exact HR2.out
 obtain ⟨g', o', eg, HG⟩ := sl_cells (Sl.ofOwn hown2) (by simp [icells]; omega)
 cases eg
 have hcell := HG (rankQ p) _ (icells_get hlt)
 have hgd : (sortI l)[rankQ p] = (sortI l).getD (rankQ p) 0 := by simp [List.getD, List.getElem?_eq_getElem hlt]
 rw [hgd] at hcell
 obtain ⟨x, HV⟩ : ∃ x, Hid ((sortI l).getD (rankQ p) 0 = x) := ⟨_, rfl⟩
 rw [HV.out] at hcell
 rw [Nat.zero_add] at hcell
 have hcell2 : w2.cell? ⟨g, (p + 999) / 1000 - 1, none⟩ = some (.int .i64 x) := hcell
 rw [show rankQ p = (p + 1000 - 1) / 1000 - 1 from rfl] at hcell
 have hr : (p + 1000 - 1) / 1000 - 1 < l.length := HR2.out
 clear HG hlt hgd
 go_wp2
 go_ret2
 exact ⟨ret_two HV.out.symm, hb2⟩

theorem refQuantile_at (l : List Int) (a : Option Addr) (c : Nat) (mille : Int) (w : World) (hs : Sl w (.slice a l.length c) l.length (icells l)) :
  Calls Tryz.prog 14 #[.slice a l.length c, .int .i64 mille] w fun e w' => e = .returned (.tuple #[.int .i64 (quantV l mille), .int .i64 (quantF l mille)]) ∧ Below w.heap.size w w' := by
 by_cases h0 : l.length = 0
 ·have hf : quantF l mille = 9 := by simp [quantF, h0]
  have hv : quantV l mille = 0 := by simp [quantV, hf]
  rw [hf, hv, h0]
  clear hf hv
  go_enter Tryz.func14, Tryz.ntmps14
  go_wp2
  go_ret2
  exact ⟨rfl, Below.refl _ _⟩
 by_cases h1 : 20000 < l.length
 ·have hf : quantF l mille = 2 := by simp [quantF, h0, h1]
  have hv : quantV l mille = 0 := by simp [quantV, hf]
  have h0' : 0 < l.length := by omega
  have hz : ((l.length : Int) == 0) = false := beq_eq_false_iff_ne.2 (by omega)
  rw [hf, hv]
  clear hf hv h0
  go_enter Tryz.func14, Tryz.ntmps14
  go_wp2
  go_ret2
  exact ⟨rfl, Below.refl _ _⟩
 by_cases h2 : 1 ≤ mille ∧ mille ≤ 1000
 ·have hf : quantF l mille = 0 := by simp [quantF, h0, h1, h2]
  have hv : quantV l mille = (sortI l).getD (rankQ (l.length * mille.toNat)) 0 := by simp [quantV, hf]
  rw [hf, hv]
  obtain ⟨b, o, rfl, hc⟩ := sl_cells hs (by simp [icells]; omega)
  have := rquantile_ok l b o c mille.toNat w hs (by omega) (by omega) (by omega) (by omega) hc
  rw [Int.toNat_of_nonneg (by omega)] at this
  exact this
 ·have hf : quantF l mille = 1 := by simp [quantF, h0, h1, h2]
  have hv : quantV l mille = 0 := by simp [quantV, hf]
  have h0' : 0 < l.length := by omega
  have hz : ((l.length : Int) == 0) = false := beq_eq_false_iff_ne.2 (by omega)
  have H2 := Lib.hid h2
  rw [hf, hv]
  clear hf hv h0 h2
  go_enter Tryz.func14, Tryz.ntmps14
  by_cases h3 : mille < 1
  ·go_wp2
   go_ret2
   exact ⟨rfl, Below.refl _ _⟩
  ·have h4 : 1000 < mille := by have := H2.out; omega
   go_wp2
   go_ret2
   exact ⟨rfl, Below.refl _ _⟩
end Qt
end Go.Proofs.YtiieckboccbhhaaGreatDoor
namespace Go.Proofs.YtiieckboccbhhaaGreatDoor
open Go.RowKit
namespace Nm
open _root_.Go.Proofs.YtiieckboccbhhaaGreatDoor.Nt (RH RH.cell RH.box RH.row RH.lt RH.new RH.ext RH.fre RH.set RH.other Tab Tab.ext wp_frs1 cs_other')
set_option maxRecDepth 100000 in
set_option maxHeartbeats 16000000 in
theorem lawQms_at (l : List Int) (s : Option Addr) (c : Nat) (m : Int) (a b : ByteArray) (ha : a.size ≤ maxLen) (hb : b.size ≤ maxLen) (w : World) (hs : Sl w (.slice s l.length c) l.length (l.map (Value.int .i64))) (ht : Tab w) : Calls Tryz.prog 5 #[.slice s l.length c, .int .i64 m, .agg #[.string a, .string b]] w fun e w' => e = .returned (.bool true) ∧ Below w.heap.size w w' := by
 have HS := Lib.hid hs
 clear hs
 obtain ⟨t0, ht0⟩ : ∃ z, Qt.quantV l m = z := ⟨_, rfl⟩
 obtain ⟨t1, ht1⟩ : ∃ z, Qt.quantF l m = z := ⟨_, rfl⟩
 have H_t := Lib.hid (And.intro ht0 (ht1))
 clear ht0 ht1
 obtain ⟨r0, hr0⟩ : ∃ z, btLo l m a b = z := ⟨_, rfl⟩
 obtain ⟨r1, hr1⟩ : ∃ z, btHi l m a b = z := ⟨_, rfl⟩
 obtain ⟨r2, hr2⟩ : ∃ z, btF l m a b = z := ⟨_, rfl⟩
 have H_r := Lib.hid (And.intro hr0 (And.intro hr1 (hr2)))
 clear hr0 hr1 hr2
 go_enter Tryz.func5, Tryz.ntmps5
 have HT0 := Lib.hid ht
 clear ht
 go_upto_region 1 with (fail)
 refine wp_frs1 fun w1' hbz hR0 => ?_
 have HR_m : Hid (RH w1' w.heap.size #[.string a, .string b] 23) := Lib.hid hR0
 have HW := Lib.hid hbz
 clear hbz hR0
 go_wp2_with fail
 refine (Qt.metric_Quantile l s c m w1' (HS.out.ext HW.out)).mono ?_
 rintro e w2' ⟨rfl, hbz⟩
 rw [H_t.out.1, H_t.out.2]
 replace HR_m := Lib.hid (HR_m.out.ext hbz)
 replace HW := Lib.hid (ext_trans HW.out hbz)
 clear hbz
 go_wp2_with fail
 refine (Qt.refQuantile_at l s c m w2' (HS.out.ext HW.out)).mono ?_
 rintro e w3' ⟨rfl, hbz⟩
 rw [H_t.out.1, H_t.out.2]
 replace HR_m := Lib.hid (HR_m.out.ext hbz)
 replace HW := Lib.hid (ext_trans HW.out hbz)
 clear hbz
 obtain ⟨c_m_0, c_m_1⟩ := zs2 HR_m.out
 go_wp2_with fail
 refine (metBetween_at l s c m a b ha hb w3' (HS.out.ext HW.out)).mono ?_
 rintro e w4' ⟨rfl, hbz⟩
 rw [H_r.out.1, H_r.out.2.1, H_r.out.2.2]
 replace HR_m := Lib.hid (HR_m.out.ext hbz)
 replace HW := Lib.hid (ext_trans HW.out hbz)
 clear c_m_0 c_m_1
 clear hbz
 obtain ⟨c_m_0, c_m_1⟩ := zs2 HR_m.out
 go_wp2_with fail
 refine (refBetween_at l s c m a b ha hb w4' (HS.out.ext HW.out) (HT0.out.ext HW.out)).mono ?_
 rintro e w5' ⟨rfl, hbz⟩
 rw [H_r.out.1, H_r.out.2.1, H_r.out.2.2]
 replace HR_m := Lib.hid (HR_m.out.ext hbz)
 replace HW := Lib.hid (ext_trans HW.out hbz)
 clear c_m_0 c_m_1
 clear hbz
 go_wp2
 go_ret
 exact ⟨by simp, HW.out⟩
end Nm
end Go.Proofs.YtiieckboccbhhaaGreatDoor
