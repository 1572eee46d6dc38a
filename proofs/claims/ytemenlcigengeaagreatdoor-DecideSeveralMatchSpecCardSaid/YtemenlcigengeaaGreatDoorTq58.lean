/- A number put into a sorted row: the list, and the row of ints in memory. ranking of the reference. Printed by gen_rnk.py. -/
import Derived.Test.YtemenlcigengeaaGreatDoorTq57
import Derived.Test.YtemenlcigengeaaGreatDoorTq43
import Derived.Test.YtemenlcigengeaaGreatDoorTq49
import Derived.Test.YtemenlcigengeaaGreatDoorProg
import Derived.Test.YtemenlcigengeaaGreatDoorTq00
import Derived.Test.YtemenlcigengeaaGreatDoorTq40
import Derived.Test.YtemenlcigengeaaGreatDoorTq23
import Derived.Test.YtemenlcigengeaaGreatDoorTq45
import Derived.Test.YtemenlcigengeaaGreatDoorTq50
import Derived.Test.YtemenlcigengeaaGreatDoorTq36
import Derived.Test.YtemenlcigengeaaGreatDoorTq41
import Derived.Test.YtemenlcigengeaaGreatDoorTq48
import Derived.Test.YtemenlcigengeaaGreatDoorTq16
import Derived.Test.YtemenlcigengeaaGreatDoorTq05
import Derived.Test.YtemenlcigengeaaGreatDoorTq06
import Derived.Test.YtemenlcigengeaaGreatDoorTq03
import Derived.Test.YtemenlcigengeaaGreatDoorTq07
import Derived.Test.YtemenlcigengeaaGreatDoorTq08
import Derived.Test.YtemenlcigengeaaGreatDoorTq31
import Derived.Laws.CopyOwn
import Derived.Test.YtemenlcigengeaaGreatDoorTq17
import Derived.Test.YtemenlcigengeaaGreatDoorTq18
import Derived.Test.YtemenlcigengeaaGreatDoorTq19
import Derived.Test.YtemenlcigengeaaGreatDoorTq20
import Derived.Test.YtemenlcigengeaaGreatDoorTq21
import Derived.Test.YtemenlcigengeaaGreatDoorTq37
import Derived.Test.YtemenlcigengeaaGreatDoorTq51
import Derived.Test.YtemenlcigengeaaGreatDoorTq52
import Derived.Test.YtemenlcigengeaaGreatDoorTq53
import Derived.Test.YtemenlcigengeaaGreatDoorTq54
namespace Go.Proofs.YtemenlcigengeaaGreatDoor
open Go.RowKit
namespace Nm
theorem ins_rk {v : Nat → Rat} {j k : Nat} {L : List Nat} (h : Rk v j L) (hk : k ≤ j) (h1 : ∀ m (hm : m < L.length), m < k → v j ≤ v L[m]) (h2 : ∀ hm : k < L.length, v L[k] ≤ v j) : Rk v (j + 1) (L.take k ++ j :: L.drop k) := by
  have hl := h.len
  refine ⟨?_, ?_⟩
  · have e1 : (L.take k ++ j :: L.drop k).Perm (j :: (L.take k ++ L.drop k)) := List.perm_middle
    rw [List.take_append_drop] at e1
    refine e1.trans ((List.Perm.cons j h.1).trans ?_)
    rw [List.range_succ]
    exact (List.perm_append_singleton j (List.range j)).symm
  · rw [List.pairwise_append]
    refine ⟨h.2.sublist (List.take_sublist k L), ?_, ?_⟩
    · rw [List.pairwise_cons]
      refine ⟨?_, h.2.sublist (List.drop_sublist k L)⟩
      intro b hb
      obtain ⟨i, hi, rfl⟩ := List.getElem_of_mem hb
      rw [List.length_drop] at hi
      rw [List.getElem_drop]
      exact Std.le_trans (h.sorted (a := k) (b := k + i) (by omega) (by omega) (by omega)) (h2 (by omega))
    · intro a ha b hb
      obtain ⟨m, hm, rfl⟩ := List.getElem_of_mem ha
      rw [List.length_take] at hm
      have hmk : m < k := by omega
      rw [List.getElem_take]
      rcases List.mem_cons.1 hb with rfl | hb
      · exact h1 m (by omega) hmk
      · obtain ⟨i, hi, rfl⟩ := List.getElem_of_mem hb
        rw [List.length_drop] at hi
        rw [List.getElem_drop]
        exact h.sorted (by omega) (by omega) (by omega)
theorem ins_list {L : List Nat} {j k x : Nat} (hl : L.length = j) (hk : k ≤ j) : (((L ++ [0]).take (k + 1) ++ ((L ++ [0]).drop k).take (j - k)).set k x) = L.take k ++ x :: L.drop k := by
  have e1 : ((L ++ [0]).drop k).take (j - k) = L.drop k := by
    rw [List.drop_append_of_le_length (by omega), List.take_append_of_le_length (by rw [List.length_drop]; omega), List.take_of_length_le (by rw [List.length_drop]; omega)]
  rw [e1]
  have hlen : k < (L ++ [0]).length := by simp; omega
  rw [List.take_add_one, List.getElem?_eq_getElem hlen]
  have e2 : (L ++ [0]).take k = L.take k := List.take_append_of_le_length (by omega)
  rw [e2]
  have hk' : (L.take k).length = k := by rw [List.length_take]; omega
  simp only [Option.toList_some, List.append_assoc, List.cons_append, List.nil_append]
  rw [List.set_append_right _ _ (by omega), hk', Nat.sub_self, List.set_cons_zero]
end Nm
namespace Nt
theorem wpList_copy_ins {w : World} {ops : Array Oper} {rest : List Oper} {o : Oper} {a : Act} {Q : Exit → Act → World → Prop} (hgd : o.guard = none) (d s : Operand)
    (ho : o.op = .call { callee := .builtin .copy, args := #[d, s], argTypes := #[35, 35] }) {base g n cap k dCap sCap : Nat} {M : List Nat} {dp : Option Addr} (h : Row w base (.slice (some ⟨g, 0, none⟩) n cap) M) (hk : k < n)
    {dn : Nat} (hdn : dn = n - (k + 1)) (hd : a.eval d = .slice dp dn dCap) (hdp : 0 < n - (k + 1) → dp = some ⟨g, k + 1, none⟩) (hs : a.eval s = .slice (some ⟨g, k, none⟩) (n - k) sCap)
    (hq : ∀ w', Row w' base (.slice (some ⟨g, 0, none⟩) n cap) (M.take (k + 1) ++ (M.drop k).take (n - (k + 1))) → Below base w w' → wpList Tryz.prog ops Q rest (a.put o.dst (goInt ((n - (k + 1) : Nat) : Int))) w') : wpList Tryz.prog ops Q (o :: rest) a w := by
  subst hdn
  obtain ⟨hl, hb, cur, hg, hn, hm, hsz, ht⟩ := h.parts
  have hcl : ((M.drop k).take (n - (k + 1))).length = n - (k + 1) := by rw [List.length_take, List.length_drop, hl]; omega
  have hcs : (wcs ((M.drop k).take (n - (k + 1)))).length = n - (k + 1) := by rw [wcs_length, hcl]
  refine wpList_copy_splice hgd d s _ _ ho 3 Tryz.underlying35 (by kernel_rfl) dp (some ⟨g, k, none⟩) (n - (k + 1)) dCap (n - k) sCap hd hs g (k + 1) cur.toList 3 (by simpa using hg) (wcs ((M.drop k).take (n - (k + 1)))) (by rw [hcs]; exact (Nat.min_eq_right (by omega)).symm) ?_ (by rw [hcs, Array.length_toList]; omega) (wcs_one _) base w (Below.refl _ _) hb ?_
  · intro hpos
    rw [hcs] at hpos
    refine ⟨hdp hpos, _, rfl, fun j v hj => ?_⟩
    have hjl : j < n - (k + 1) := by have := (List.getElem?_eq_some_iff.1 hj).1; rwa [hcs] at this
    rw [wcs_get (by rw [hcl]; exact hjl)] at hj
    cases hj
    rw [add_spot]
    have := (h.cell (i := k + j) (by omega)).1
    rw [this]; simp [List.getElem_take, List.getElem_drop]
  · intro w' hw hbl
    rw [hcs]
    refine hq w' ?_ hbl
    have hw' := hw.out
    have hlen : (M.take (k + 1) ++ (M.drop k).take (n - (k + 1))).length = n := by rw [List.length_append, hcl, List.length_take, hl]; omega
    have hfit : k + 1 + (wcs ((M.drop k).take (n - (k + 1)))).length ≤ cur.toList.length := by rw [hcs, Array.length_toList]; omega
    have := Row.make (M := M.take (k + 1) ++ (M.drop k).take (n - (k + 1))) hb hw' (by rw [hlen]; exact hn) hm (by simpa [length_splice _ _ _ hfit] using hsz) (by
      rw [hlen]
      unfold splice
      have e0 : cur.toList.take (k + 1) = wcs (M.take (k + 1)) := by
        rw [← wcs_take, ← ht, List.take_take, Nat.min_eq_left (by omega)]
      have e1 : (cur.toList.take (k + 1)).length = k + 1 := by rw [List.length_take, Array.length_toList]; omega
      rw [← List.append_assoc, List.take_left' (by rw [List.length_append, e1, hcs]; omega), e0]
      simp [wcs])
    rw [hlen] at this
    exact this
end Nt
end Go.Proofs.YtemenlcigengeaaGreatDoor
namespace Go.Proofs.YtemenlcigengeaaGreatDoor
open Go.RowKit
namespace Nm
end Nm
namespace Nt
open _root_.Go.Proofs.YtemenlcigengeaaGreatDoor.Nm (RT rtL rtOk aF vL vL_fits rt_elem Rk ins_rk ins_list Fits showN showD)
/-- what ranking hands back -/
def RnkPost (w : World) (l : List RT) (e : Ending) (w' : World) : Prop := ∃ g cap P, e = .returned (.slice (some ⟨g, 0, none⟩) l.length cap) ∧ Rk (vL l) l.length P ∧ Sl w' (.slice (some ⟨g, 0, none⟩) l.length cap) l.length (wcs P) ∧ w.heap.size ≤ g ∧ Below w.heap.size w w'
set_option maxRecDepth 100000 in
set_option maxHeartbeats 8000000 in
theorem ranking_at (l : List RT) (a : Option Addr) (c : Nat) (w : World) (hs : Sl w (.slice a l.length c) l.length (l.flatMap rtL)) (haF : aF l = 0) (hl1 : 1 ≤ l.length) (hl10 : l.length ≤ 10) (ht : Tab w) : Calls Tryz.prog 57 #[.slice a l.length c] w (RnkPost w l) := by
  have HS := Lib.hid hs
  have HAF := Lib.hid haF
  clear hs haF
  go_enter Tryz.func57, Tryz.ntmps57
  have HT0 := Lib.hid ht
  clear ht
  have HR0 : Hid (Rk (vL l) 0 []) := Lib.hid ⟨List.Perm.refl _, List.Pairwise.nil⟩
  have HROW : Hid (Row w w.heap.size (.slice none 0 0) []) := Lib.hid (Row.nil _ _)
  have HBL : Hid (Below w.heap.size w w) := Lib.hid (Below.refl _ _)
  go_wp2
  go_loopw [3, 4, 5, 6, 9] (fun s _ _ _ i wr => ∃ (j : Nat) (L : List Nat), j ≤ l.length ∧ i = .int .i64 (j : Int) ∧ Hid (Rk (vL l) j L) ∧ Hid (Row wr w.heap.size s L) ∧ Hid (Below w.heap.size w wr)) (fun _ _ _ _ i _ => l.length - (intOf i).toNat)
  case atStart => exact ⟨0, [], by omega, rfl, HR0, HROW, HBL⟩
  case round =>
    clear HR0 HROW HBL
    obtain ⟨j, L, hj, rfl, HRK, HROW, HBL⟩ := hrel
    generalize hX : wr = X at *
    clear hX
    have HLL := Lib.hid HRK.out.len
    by_cases hlt : j < l.length
    · have HFJ := Lib.hid (vL_fits HAF.out hlt)
      obtain ⟨pb, po, rfl, hc0, hc1⟩ := rt_elem HAF.out HS.out hlt
      have c_l_0 : X.cell? ⟨pb, po + j * 2, none⟩ = some (.string (showN (vL l j))) := (HBL.out.cell (World.block_lt_of_cell? _ _ hc0)).trans hc0
      have c_l_1 : X.cell? ⟨pb, po + j * 2 + 1, none⟩ = some (.string (showD (vL l j))) := (HBL.out.cell (World.block_lt_of_cell? _ _ hc1)).trans hc1
      clear hc0 hc1
      have hj0 : (0 : Int) ≤ (j : Int) := Int.natCast_nonneg _
      have hj1 : (j : Int) < (l.length : Int) := by omega
      have hj3 : (j : Int).toNat = j := by omega
      go_upto_region 5 with (fail)
      refine wp_box1 fun Z hsz hbz hC => ?_
      clear hsz c_l_0 c_l_1
      have HBX := Lib.hid hC
      have hle : w.heap.size ≤ X.heap.size := HBL.out.size
      replace HROW := Lib.hid (HROW.out.ext hbz)
      replace HBL := Lib.hid (HBL.out.trans (hbz.mono hle))
      clear hbz hC
      generalize X.heap.size = bX at *
      go_wp2
      have hwz : w.heap.size ≤ Z.heap.size := HBL.out.size
      obtain ⟨a9, c9, h9⟩ := own_any HROW.out
      rw [HLL.out] at h9
      subst h9
      have HH0 : Hid (∀ m (hm : m < L.length), m < 0 → vL l j ≤ vL l L[m]) := Lib.hid (fun m _ h => absurd h (Nat.not_lt_zero m))
      have HB0 : Hid (Below Z.heap.size Z Z) := Lib.hid (Below.refl _ _)
      go_loopw [6] (fun ik wr => ∃ k : Nat, k ≤ j ∧ ik = .int .i64 (k : Int) ∧ Hid (∀ m (hm : m < L.length), m < k → vL l j ≤ vL l L[m]) ∧ Hid (Below Z.heap.size Z wr)) (fun ik _ => j - (intOf ik).toNat)
      case atStart => exact ⟨0, by omega, rfl, HH0, HB0⟩
      case round =>
        clear HH0 HB0
        obtain ⟨k, hkj, rfl, HH1, HBY⟩ := hrel
        generalize hX : wr = V at *
        clear hX
        by_cases hk : k < j
        · have hkL : k < L.length := by rw [HLL.out]; exact hk
          have HIN : Hid (L[k] < l.length) := Lib.hid (Nat.lt_of_lt_of_le (HRK.out.mem.1 (List.getElem_mem hkL)) (Nat.le_of_lt hlt))
          have hgL := wcs_get hkL
          have HST : Hid (∀ m (hm : m < L.length), m < k + 1 → vL l j ≤ vL l L[k] → vL l j ≤ vL l L[m]) := Lib.hid fun m hm h1 h2 => (Nat.lt_or_ge m k).elim (fun h => HH1.out m hm h) (fun h => (show m = k by omega) ▸ h2)
          have HLK : Hid (∀ hm : k < L.length, L[k] = L[k]) := Lib.hid fun _ => rfl
          clear HLK
          obtain ⟨i, hi⟩ : ∃ x, L[k] = x := ⟨_, rfl⟩
          rw [hi] at HIN hgL HST
          have HIK := Lib.hid hi
          clear hi
          have hin := HIN.out
          have HFI := Lib.hid (vL_fits HAF.out hin)
          obtain ⟨g9, o9, rfl, hcL⟩ := sl_addr (by have h := HROW.out.sl; rw [HLL.out] at h; exact h) hgL
          obtain ⟨pb2, po2, hp2, hd0, hd1⟩ := rt_elem HAF.out HS.out hin
          cases hp2
          have HG : Hid (∀ p : GrownOf V, Below Z.heap.size Z p.v) := Lib.hid fun p => ext_trans HBY.out p.b
          have HGW : Hid (∀ p : GrownOf V, Below w.heap.size w p.v) := Lib.hid fun p => HBL.out.trans ((HG.out p).mono hwz)
          have cL : ∀ p : GrownOf V, p.v.cell? ⟨g9, o9 + k, none⟩ = some (.int .i64 (i : Int)) := fun p => ((HG.out p).cell (World.block_lt_of_cell? _ _ hcL)).trans hcL
          have d0 : ∀ p : GrownOf V, p.v.cell? ⟨pb, po + i * 2, none⟩ = some (.string (showN (vL l i))) := fun p => ((HGW.out p).cell (World.block_lt_of_cell? _ _ hd0)).trans hd0
          have d1 : ∀ p : GrownOf V, p.v.cell? ⟨pb, po + i * 2 + 1, none⟩ = some (.string (showD (vL l i))) := fun p => ((HGW.out p).cell (World.block_lt_of_cell? _ _ hd1)).trans hd1
          have x0 : ∀ p : GrownOf V, p.v.cell? ⟨bX, 0, none⟩ = some (.string (showN (vL l j))) := fun p => (HBX.out.ext (HG.out p)).2 0
          have x1 : ∀ p : GrownOf V, p.v.cell? ⟨bX, 1, none⟩ = some (.string (showD (vL l j))) := fun p => (HBX.out.ext (HG.out p)).2 1
          obtain ⟨b, hb⟩ : ∃ b, decide (vL l i < vL l j) = b := ⟨_, rfl⟩
          have HBB := Lib.hid hb
          clear hb
          have hc : ∀ p : GrownOf V, Calls Tryz.prog 24 #[.agg #[.string (showN (vL l i)), .string (showD (vL l i))], .agg #[.string (showN (vL l j)), .string (showD (vL l j))]] p.v fun e w' => e = .returned (.bool b) ∧ Below p.v.heap.size p.v w' := fun p => less_is (vL l i) (vL l j) b HBB.out HFI.out HFJ.out p.v (HT0.out.ext (HGW.out p))
          have hk0 : (0 : Int) ≤ (k : Int) := Int.natCast_nonneg _
          have hk1 : (k : Int) < (j : Int) := by omega
          have hk3 : (k : Int).toNat = k := by omega
          have hi0 : (0 : Int) ≤ (i : Int) := Int.natCast_nonneg _
          have hi1 : (i : Int) < (l.length : Int) := by omega
          have hi3 : (i : Int).toNat = i := by omega
          clear hcL hd0 hd1 hgL
          go_wp2_with fail
          refine Nt.wp_region_below (by kernel_rfl) (by kernel_rfl) ?_
          repeat (quiet_step (first | (go_at_call 24; refine Calls.grows (hc _))))
          refine wpQuiet_nil ?_
          intro wq hw'
          have hbq := Nt.GrownOf.of hw'
          clear hw'
          clear cL d0 d1 x0 x1 hc HG HGW
          replace HBY := Lib.hid (ext_trans HBY.out hbq)
          clear hbq
          cases b
          · have HH9 : Hid (∀ m (hm : m < L.length), m < k + 1 → vL l j ≤ vL l L[m]) := Lib.hid fun m hm h1 => HST.out m hm h1 (Rat.not_lt.1 (of_decide_eq_false HBB.out))
            go_wp2
            go_roundw
            case rel => exact ⟨k + 1, by omega, by go_num, HH9, HBY⟩
            case measure => simp [intOf]; omega
          · have HH2 : Hid (∀ hm : k < L.length, vL l L[k] ≤ vL l j) := Lib.hid fun hm => by rw [HIK.out]; exact Rat.le_of_lt (of_decide_eq_true HBB.out)
            clear HST HBB HIK
            have hzy : Z.heap.size ≤ wq.heap.size := HBY.out.size
            have hwy : w.heap.size ≤ wq.heap.size := Nat.le_trans hwz hzy
            have HROWY := Lib.hid (HROW.out.ext HBY.out)
            have HBLY := Lib.hid (HBL.out.trans (HBY.out.mono hwz))
            clear HROW HBL HBX HBY hzy
            go_wp2_with (at_builtin; refine wpList_append_wi rfl _ _ rfl w.heap.size rfl HROWY.out 0 rfl rfl (by rw [HLL.out]; omega) hwy ?_; intro v7 w7 hr7 hb7)
            obtain ⟨g7, c7, rfl, hbg, hle7, hcm7, _⟩ := hr7.own (by simp)
            have hl7 : (L ++ [0]).length = j + 1 := by rw [List.length_append, HLL.out]; rfl
            rw [hl7] at hle7 hr7 ⊢
            have HR7 := Lib.hid hr7
            have HB7 := Lib.hid (HBLY.out.trans hb7)
            clear hr7 hb7 HROWY HBLY hwy
            go_upto_region 9 with (fail)
            have e1 : ((k : Int) + 1).toNat = k + 1 := by omega
            have e0 : (k : Int).toNat = k := by omega
            have p0 : (0 : Int) ≤ (k : Int) := by omega
            have p1 : (0 : Int) ≤ (k : Int) + 1 := by omega
            have b1 : (k : Int) + 1 ≤ ((j + 1 : Nat) : Int) := by omega
            have b0 : (k : Int) ≤ ((j + 1 : Nat) : Int) := by omega
            have hwr : IntKind.i64.wrap ((k : Int) + 1) = (k : Int) + 1 := by rw [IntKind.wrap_i64]; omega
            by_cases hcap : c7 = k + 1
            · exfalso
              omega
            · have hck : ¬ c7 = k := by omega
              refine Grow.wp_region_grow 7 [TP.eq (.slice (some ⟨g7, 0, none⟩) (j + 1) c7), TP.eq (.int .i64 (k : Int)), TP.eq (.int .i64 ((k : Int) + 1)), TP.eq (.slice (some ⟨g7, k + 1, none⟩) (j - k) (c7 - (k + 1))), TP.eq (.slice (some ⟨g7, 0, none⟩) (j + 1) c7), TP.eq (.int .i64 (k : Int)), TP.eq (.slice (some ⟨g7, k, none⟩) (j + 1 - k) (c7 - k))] [[], [], [1], [0, 2], [], [], [4, 5]] (by kernel_rfl) (by kernel_rfl) ⟨?o0yb, ?o1yb, ?o2yb, ?o3yb, ?o4yb, ?o5yb, ?o6yb, trivial⟩ ?_
              case o0yb =>
                intro w' hb
                show wpList _ _ _ _ _ _
                go_wp2
                exact ⟨rfl, Below.refl _ _, rfl⟩
              case o1yb =>
                intro w' hb
                show wpList _ _ _ _ _ _
                go_wp2
                exact ⟨rfl, Below.refl _ _, rfl⟩
              case o2yb =>
                intro w' hb v1 hv1
                obtain rfl : v1 = _ := hv1
                show wpList _ _ _ _ _ _
                simp only [Grow.dstOf, List.getElem?_toArray, List.getElem?_cons_succ, List.getElem?_cons_zero, Option.bind_some, Act.put, List.setIfInBounds_toArray, List.set_cons_succ, List.set_cons_zero]
                go_wp2
                exact ⟨rfl, Below.refl _ _, rfl⟩
              case o3yb =>
                intro w' hb v1 hv1 v2 hv2
                obtain rfl : v1 = _ := hv1
                obtain rfl : v2 = _ := hv2
                show wpList _ _ _ _ _ _
                simp only [Grow.dstOf, List.getElem?_toArray, List.getElem?_cons_succ, List.getElem?_cons_zero, Option.bind_some, Act.put, List.setIfInBounds_toArray, List.set_cons_succ, List.set_cons_zero]
                go_wp2
                exact ⟨rfl, Below.refl _ _, rfl⟩
              case o4yb =>
                intro w' hb
                show wpList _ _ _ _ _ _
                go_wp2
                exact ⟨rfl, Below.refl _ _, rfl⟩
              case o5yb =>
                intro w' hb
                show wpList _ _ _ _ _ _
                go_wp2
                exact ⟨rfl, Below.refl _ _, rfl⟩
              case o6yb =>
                intro w' hb v1 hv1 v2 hv2
                obtain rfl : v1 = _ := hv1
                obtain rfl : v2 = _ := hv2
                show wpList _ _ _ _ _ _
                simp only [Grow.dstOf, List.getElem?_toArray, List.getElem?_cons_succ, List.getElem?_cons_zero, Option.bind_some, Act.put, List.setIfInBounds_toArray, List.set_cons_succ, List.set_cons_zero]
                go_wp2
                exact ⟨rfl, Below.refl _ _, rfl⟩
              intro Y7 hbz u0 hu0 u1 hu1 u2 hu2 u3 hu3 u4 hu4 u5 hu5 u6 hu6
              obtain rfl : u3 = _ := hu3
              obtain rfl : u6 = _ := hu6
              clear hu0 hu1 hu2 hu4 hu5
              have hs7 : w.heap.size ≤ w7.heap.size := HB7.out.size
              replace HR7 := Lib.hid (HR7.out.ext hbz)
              replace HB7 := Lib.hid (HB7.out.trans (hbz.mono hs7))
              clear hbz hs7
              show wpList _ _ _ _ _ _
              simp only [Act.put, List.setIfInBounds_toArray, List.set_cons_succ, List.set_cons_zero]
              refine wpList_copy_ins rfl _ _ rfl HR7.out (show k < j + 1 by omega) (show j - k = j + 1 - (k + 1) by omega) rfl (fun h => rfl) rfl ?_
              intro w8 hr8 hb8
              have hlM : ((L ++ [0]).take (k + 1) ++ ((L ++ [0]).drop k).take (j + 1 - (k + 1))).length = j + 1 := hr8.parts.1
              have HC8 := Lib.hid (hr8.cell (i := k) (by rw [hlM]; omega))
              have HR9 : Hid (Row (w8.setCell ⟨g7, k, none⟩ (.int .i64 (j : Int))) w.heap.size (.slice (some ⟨g7, 0, none⟩) (j + 1) c7) (L.take k ++ j :: L.drop k)) := Lib.hid (by have h := hr8.set (i := k) (by rw [hlM]; omega) j; rw [show j + 1 - (k + 1) = j - k by omega, ins_list HLL.out hkj] at h; exact h)
              have HB9 : Hid (Below w.heap.size w (w8.setCell ⟨g7, k, none⟩ (.int .i64 (j : Int)))) := Lib.hid ((HB7.out.trans hb8).setCell (p := ⟨g7, k, none⟩) hbg _)
              have HK9 : Hid (Rk (vL l) (j + 1) (L.take k ++ j :: L.drop k)) := Lib.hid (ins_rk HRK.out hkj HH1.out HH2.out)
              obtain ⟨x0, c_o⟩ : ∃ x, w8.cell? ⟨g7, k, none⟩ = some (.int .i64 x) := ⟨_, HC8.out.1⟩
              have f_o : w8.frozen? ⟨g7, k, none⟩ = false := HC8.out.2
              clear hr8 hb8 HC8 hlM HR7 HB7
              have q0 : (k : Int) < ((j + 1 : Nat) : Int) := by omega
              go_wp2
              go_roundw
              case rel => exact ⟨j + 1, L.take k ++ j :: L.drop k, by omega, by go_num, HK9, HR9, HB9⟩
              case measure => simp [intOf]; omega
        · have hnk : ¬ (k : Int) < (j : Int) := by omega
          have hnd : decide ((k : Int) < (j : Int)) = false := decide_eq_false hnk
          have HH2 : Hid (∀ hm : k < L.length, vL l L[k] ≤ vL l j) := Lib.hid fun hm => absurd hm (by rw [HLL.out]; omega)
          replace HBY := Lib.hid (HBY.out.drew)
          go_wp2_with fail
          go_big_region
          clear hnd
          generalize V.drew = V2 at *
          have hzy : Z.heap.size ≤ V2.heap.size := HBY.out.size
          have hwy : w.heap.size ≤ V2.heap.size := Nat.le_trans hwz hzy
          have HROWY := Lib.hid (HROW.out.ext HBY.out)
          have HBLY := Lib.hid (HBL.out.trans (HBY.out.mono hwz))
          clear HROW HBL HBX HBY hzy
          go_wp2_with (at_builtin; refine wpList_append_wi rfl _ _ rfl w.heap.size rfl HROWY.out 0 rfl rfl (by rw [HLL.out]; omega) hwy ?_; intro v7 w7 hr7 hb7)
          obtain ⟨g7, c7, rfl, hbg, hle7, hcm7, _⟩ := hr7.own (by simp)
          have hl7 : (L ++ [0]).length = j + 1 := by rw [List.length_append, HLL.out]; rfl
          rw [hl7] at hle7 hr7 ⊢
          have HR7 := Lib.hid hr7
          have HB7 := Lib.hid (HBLY.out.trans hb7)
          clear hr7 hb7 HROWY HBLY hwy
          go_upto_region 9 with (fail)
          have e1 : ((k : Int) + 1).toNat = k + 1 := by omega
          have e0 : (k : Int).toNat = k := by omega
          have p0 : (0 : Int) ≤ (k : Int) := by omega
          have p1 : (0 : Int) ≤ (k : Int) + 1 := by omega
          have b1 : (k : Int) + 1 ≤ ((j + 1 : Nat) : Int) := by omega
          have b0 : (k : Int) ≤ ((j + 1 : Nat) : Int) := by omega
          have hwr : IntKind.i64.wrap ((k : Int) + 1) = (k : Int) + 1 := by rw [IntKind.wrap_i64]; omega
          by_cases hcap : c7 = k + 1
          · subst hcap
            refine Grow.wp_region_grow 7 [TP.eq (.slice (some ⟨g7, 0, none⟩) (j + 1) (k + 1)), TP.eq (.int .i64 (k : Int)), TP.eq (.int .i64 ((k : Int) + 1)), TP.eq (.slice (some ⟨g7, 0, none⟩) 0 0), TP.eq (.slice (some ⟨g7, 0, none⟩) (j + 1) (k + 1)), TP.eq (.int .i64 (k : Int)), TP.eq (.slice (some ⟨g7, k, none⟩) (j + 1 - k) 1)] [[], [], [1], [0, 2], [], [], [4, 5]] (by kernel_rfl) (by kernel_rfl) ⟨?o0ea, ?o1ea, ?o2ea, ?o3ea, ?o4ea, ?o5ea, ?o6ea, trivial⟩ ?_
            case o0ea =>
              intro w' hb
              show wpList _ _ _ _ _ _
              go_wp2
              exact ⟨rfl, Below.refl _ _, rfl⟩
            case o1ea =>
              intro w' hb
              show wpList _ _ _ _ _ _
              go_wp2
              exact ⟨rfl, Below.refl _ _, rfl⟩
            case o2ea =>
              intro w' hb v1 hv1
              obtain rfl : v1 = _ := hv1
              show wpList _ _ _ _ _ _
              simp only [Grow.dstOf, List.getElem?_toArray, List.getElem?_cons_succ, List.getElem?_cons_zero, Option.bind_some, Act.put, List.setIfInBounds_toArray, List.set_cons_succ, List.set_cons_zero]
              go_wp2
              exact ⟨rfl, Below.refl _ _, rfl⟩
            case o3ea =>
              intro w' hb v1 hv1 v2 hv2
              obtain rfl : v1 = _ := hv1
              obtain rfl : v2 = _ := hv2
              show wpList _ _ _ _ _ _
              simp only [Grow.dstOf, List.getElem?_toArray, List.getElem?_cons_succ, List.getElem?_cons_zero, Option.bind_some, Act.put, List.setIfInBounds_toArray, List.set_cons_succ, List.set_cons_zero]
              go_wp2
              exact ⟨rfl, Below.refl _ _, rfl⟩
            case o4ea =>
              intro w' hb
              show wpList _ _ _ _ _ _
              go_wp2
              exact ⟨rfl, Below.refl _ _, rfl⟩
            case o5ea =>
              intro w' hb
              show wpList _ _ _ _ _ _
              go_wp2
              exact ⟨rfl, Below.refl _ _, rfl⟩
            case o6ea =>
              intro w' hb v1 hv1 v2 hv2
              obtain rfl : v1 = _ := hv1
              obtain rfl : v2 = _ := hv2
              show wpList _ _ _ _ _ _
              simp only [Grow.dstOf, List.getElem?_toArray, List.getElem?_cons_succ, List.getElem?_cons_zero, Option.bind_some, Act.put, List.setIfInBounds_toArray, List.set_cons_succ, List.set_cons_zero]
              go_wp2
              exact ⟨rfl, Below.refl _ _, rfl⟩
            intro Y7 hbz u0 hu0 u1 hu1 u2 hu2 u3 hu3 u4 hu4 u5 hu5 u6 hu6
            obtain rfl : u3 = _ := hu3
            obtain rfl : u6 = _ := hu6
            clear hu0 hu1 hu2 hu4 hu5
            have hs7 : w.heap.size ≤ w7.heap.size := HB7.out.size
            replace HR7 := Lib.hid (HR7.out.ext hbz)
            replace HB7 := Lib.hid (HB7.out.trans (hbz.mono hs7))
            clear hbz hs7
            show wpList _ _ _ _ _ _
            simp only [Act.put, List.setIfInBounds_toArray, List.set_cons_succ, List.set_cons_zero]
            refine wpList_copy_ins rfl _ _ rfl HR7.out (show k < j + 1 by omega) (show 0 = j + 1 - (k + 1) by omega) rfl (fun h => absurd h (by omega)) rfl ?_
            intro w8 hr8 hb8
            have hlM : ((L ++ [0]).take (k + 1) ++ ((L ++ [0]).drop k).take (j + 1 - (k + 1))).length = j + 1 := hr8.parts.1
            have HC8 := Lib.hid (hr8.cell (i := k) (by rw [hlM]; omega))
            have HR9 : Hid (Row (w8.setCell ⟨g7, k, none⟩ (.int .i64 (j : Int))) w.heap.size (.slice (some ⟨g7, 0, none⟩) (j + 1) (k + 1)) (L.take k ++ j :: L.drop k)) := Lib.hid (by have h := hr8.set (i := k) (by rw [hlM]; omega) j; rw [show j + 1 - (k + 1) = j - k by omega, ins_list HLL.out hkj] at h; exact h)
            have HB9 : Hid (Below w.heap.size w (w8.setCell ⟨g7, k, none⟩ (.int .i64 (j : Int)))) := Lib.hid ((HB7.out.trans hb8).setCell (p := ⟨g7, k, none⟩) hbg _)
            have HK9 : Hid (Rk (vL l) (j + 1) (L.take k ++ j :: L.drop k)) := Lib.hid (ins_rk HRK.out hkj HH1.out HH2.out)
            obtain ⟨x0, c_o⟩ : ∃ x, w8.cell? ⟨g7, k, none⟩ = some (.int .i64 x) := ⟨_, HC8.out.1⟩
            have f_o : w8.frozen? ⟨g7, k, none⟩ = false := HC8.out.2
            clear hr8 hb8 HC8 hlM HR7 HB7
            have q0 : (k : Int) < ((j + 1 : Nat) : Int) := by omega
            go_wp2
            go_roundw
            case rel => exact ⟨j + 1, L.take k ++ j :: L.drop k, by omega, by go_num, HK9, HR9, HB9⟩
            case measure => simp [intOf]; omega
          · have hck : ¬ c7 = k := by omega
            refine Grow.wp_region_grow 7 [TP.eq (.slice (some ⟨g7, 0, none⟩) (j + 1) c7), TP.eq (.int .i64 (k : Int)), TP.eq (.int .i64 ((k : Int) + 1)), TP.eq (.slice (some ⟨g7, k + 1, none⟩) (j - k) (c7 - (k + 1))), TP.eq (.slice (some ⟨g7, 0, none⟩) (j + 1) c7), TP.eq (.int .i64 (k : Int)), TP.eq (.slice (some ⟨g7, k, none⟩) (j + 1 - k) (c7 - k))] [[], [], [1], [0, 2], [], [], [4, 5]] (by kernel_rfl) (by kernel_rfl) ⟨?o0eb, ?o1eb, ?o2eb, ?o3eb, ?o4eb, ?o5eb, ?o6eb, trivial⟩ ?_
            case o0eb =>
              intro w' hb
              show wpList _ _ _ _ _ _
              go_wp2
              exact ⟨rfl, Below.refl _ _, rfl⟩
            case o1eb =>
              intro w' hb
              show wpList _ _ _ _ _ _
              go_wp2
              exact ⟨rfl, Below.refl _ _, rfl⟩
            case o2eb =>
              intro w' hb v1 hv1
              obtain rfl : v1 = _ := hv1
              show wpList _ _ _ _ _ _
              simp only [Grow.dstOf, List.getElem?_toArray, List.getElem?_cons_succ, List.getElem?_cons_zero, Option.bind_some, Act.put, List.setIfInBounds_toArray, List.set_cons_succ, List.set_cons_zero]
              go_wp2
              exact ⟨rfl, Below.refl _ _, rfl⟩
            case o3eb =>
              intro w' hb v1 hv1 v2 hv2
              obtain rfl : v1 = _ := hv1
              obtain rfl : v2 = _ := hv2
              show wpList _ _ _ _ _ _
              simp only [Grow.dstOf, List.getElem?_toArray, List.getElem?_cons_succ, List.getElem?_cons_zero, Option.bind_some, Act.put, List.setIfInBounds_toArray, List.set_cons_succ, List.set_cons_zero]
              go_wp2
              exact ⟨rfl, Below.refl _ _, rfl⟩
            case o4eb =>
              intro w' hb
              show wpList _ _ _ _ _ _
              go_wp2
              exact ⟨rfl, Below.refl _ _, rfl⟩
            case o5eb =>
              intro w' hb
              show wpList _ _ _ _ _ _
              go_wp2
              exact ⟨rfl, Below.refl _ _, rfl⟩
            case o6eb =>
              intro w' hb v1 hv1 v2 hv2
              obtain rfl : v1 = _ := hv1
              obtain rfl : v2 = _ := hv2
              show wpList _ _ _ _ _ _
              simp only [Grow.dstOf, List.getElem?_toArray, List.getElem?_cons_succ, List.getElem?_cons_zero, Option.bind_some, Act.put, List.setIfInBounds_toArray, List.set_cons_succ, List.set_cons_zero]
              go_wp2
              exact ⟨rfl, Below.refl _ _, rfl⟩
            intro Y7 hbz u0 hu0 u1 hu1 u2 hu2 u3 hu3 u4 hu4 u5 hu5 u6 hu6
            obtain rfl : u3 = _ := hu3
            obtain rfl : u6 = _ := hu6
            clear hu0 hu1 hu2 hu4 hu5
            have hs7 : w.heap.size ≤ w7.heap.size := HB7.out.size
            replace HR7 := Lib.hid (HR7.out.ext hbz)
            replace HB7 := Lib.hid (HB7.out.trans (hbz.mono hs7))
            clear hbz hs7
            show wpList _ _ _ _ _ _
            simp only [Act.put, List.setIfInBounds_toArray, List.set_cons_succ, List.set_cons_zero]
            refine wpList_copy_ins rfl _ _ rfl HR7.out (show k < j + 1 by omega) (show j - k = j + 1 - (k + 1) by omega) rfl (fun h => rfl) rfl ?_
            intro w8 hr8 hb8
            have hlM : ((L ++ [0]).take (k + 1) ++ ((L ++ [0]).drop k).take (j + 1 - (k + 1))).length = j + 1 := hr8.parts.1
            have HC8 := Lib.hid (hr8.cell (i := k) (by rw [hlM]; omega))
            have HR9 : Hid (Row (w8.setCell ⟨g7, k, none⟩ (.int .i64 (j : Int))) w.heap.size (.slice (some ⟨g7, 0, none⟩) (j + 1) c7) (L.take k ++ j :: L.drop k)) := Lib.hid (by have h := hr8.set (i := k) (by rw [hlM]; omega) j; rw [show j + 1 - (k + 1) = j - k by omega, ins_list HLL.out hkj] at h; exact h)
            have HB9 : Hid (Below w.heap.size w (w8.setCell ⟨g7, k, none⟩ (.int .i64 (j : Int)))) := Lib.hid ((HB7.out.trans hb8).setCell (p := ⟨g7, k, none⟩) hbg _)
            have HK9 : Hid (Rk (vL l) (j + 1) (L.take k ++ j :: L.drop k)) := Lib.hid (ins_rk HRK.out hkj HH1.out HH2.out)
            obtain ⟨x0, c_o⟩ : ∃ x, w8.cell? ⟨g7, k, none⟩ = some (.int .i64 x) := ⟨_, HC8.out.1⟩
            have f_o : w8.frozen? ⟨g7, k, none⟩ = false := HC8.out.2
            clear hr8 hb8 HC8 hlM HR7 HB7
            have q0 : (k : Int) < ((j + 1 : Nat) : Int) := by omega
            go_wp2
            go_roundw
            case rel => exact ⟨j + 1, L.take k ++ j :: L.drop k, by omega, by go_num, HK9, HR9, HB9⟩
            case measure => simp [intOf]; omega
    · obtain rfl : j = l.length := by omega
      obtain ⟨g7, c7, rfl, hbg, hle7, hcm7, _⟩ := HROW.out.own (by rw [HLL.out]; exact hl1)
      have HSL := Lib.hid HROW.out.sl
      rw [HLL.out] at HSL ⊢
      go_wp2
      go_ret
      exact ⟨g7, c7, L, rfl, HRK.out, HSL.out, hbg, HBL.out⟩
end Nt
end Go.Proofs.YtemenlcigengeaaGreatDoor
