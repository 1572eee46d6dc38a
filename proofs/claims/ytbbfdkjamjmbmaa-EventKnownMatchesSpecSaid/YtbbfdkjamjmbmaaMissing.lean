/- Missing of package event, and the reference's. -/
import Derived.Test.YtbbfdkjamjmbmaaEvent7
namespace Go.Proofs.Ytbbfdkjamjmbmaa
open Go.RowKit
theorem gap_info : (Try.prog.info? 44).map (fun i => (i.zero, i.size, i.bytes)) = some (some (.agg #[.string { data := #[] }, .int .i64 0, .int .i64 0]), 3, 32) := by kernel_rfl
/-- the number that must come next -/
def nextAt (l : List Ev) : Nat → Int
  | 0 => 1
  | k + 1 => match l[k]?, l[k + 1]? with
    | some p, some e => if p.shard = e.shard then p.number + 1 else 1
    | _, _ => 1
abbrev Gp := ByteArray × Int × Int
def gapL (g : Gp) : List Value := [.string g.1, .int .i64 g.2.1, .int .i64 g.2.2]
theorem gapL_len (g : Gp) : (gapL g).length = 3 := rfl
def gapAt (l : List Ev) (k : Nat) : List Gp := match l[k]? with
  | some e => if nextAt l k < e.number then [(e.shard, nextAt l k, e.number - 1)] else []
  | none => []
def gapsTo (l : List Ev) : Nat → List Gp
  | 0 => []
  | k + 1 => gapsTo l k ++ gapAt l k
theorem gaps_yes {l : List Ev} {k : Nat} {s : Ev} {nx : Int} (h : l[k]? = some s) (hx : nextAt l k = nx) (hg : nx < s.number) : gapsTo l (k + 1) = gapsTo l k ++ [(s.shard, nx, s.number - 1)] := by
  simp only [gapsTo, gapAt, h, hx, if_pos hg]
theorem gaps_no {l : List Ev} {k : Nat} {s : Ev} {nx : Int} (h : l[k]? = some s) (hx : nextAt l k = nx) (hg : ¬ nx < s.number) : gapsTo l (k + 1) = gapsTo l k := by
  simp only [gapsTo, gapAt, h, hx, if_neg hg, List.append_nil]
def missL (l : List Ev) : List Gp := if checkL l = 0 then gapsTo l l.length else []
theorem ite8 (b : Bool) (x : Int) (h : (if b = true then (8 : Int) else x) = 0) : x = 0 := by cases b <;> simp_all
theorem scan_ok : ∀ (p : Option Ev) (l : List Ev), scanFrom p l = 0 → ∀ e ∈ l, checkE e = 0
  | _, [], _, e, he => by cases he
  | p, x :: l, h, e, he => by
    simp only [scanFrom] at h
    by_cases hx : checkE x = 0
    · rw [if_neg (by simp [hx])] at h
      have h' := ite8 _ _ h
      rcases List.mem_cons.1 he with rfl | he
      · exact hx
      · exact scan_ok _ l h' e he
    · rw [if_pos hx] at h; omega
theorem check_ok {l : List Ev} (h : checkL l = 0) : (∀ e ∈ l, checkE e = 0) ∧ l.length ≤ 20000 ∧ scanFrom none l = 0 := by
  unfold checkL at h
  split at h
  · cases h
  · split at h
    · omega
    · have h0 : scanFrom none l = 0 := by omega
      exact ⟨scan_ok none l h0, by omega, h0⟩
theorem number_ok {e : Ev} (h : checkE e = 0) : 1 ≤ e.number ∧ e.number ≤ 1000000000000 ∧ 0 ≤ e.time ∧ e.time ≤ 4000000000 := by
  unfold checkE at h
  split at h
  · cases h
  split at h
  · cases h
  split at h
  · cases h
  split at h
  · cases h
  · simp_all [withinB]
def MissPost (l : List Ev) (w : World) (e : Ending) (w' : World) : Prop :=
  ∃ a cap, e = .returned (.tuple #[.slice a (missL l).length cap, .int .i64 (checkL l)]) ∧ Sl w' (.slice a (missL l).length cap) (missL l).length ((missL l).flatMap gapL) ∧ Below w.heap.size w w'

set_option maxHeartbeats 8000000 in
theorem event_Missing (l : List Ev) (hok : ∀ e ∈ l, e.ok) (a : Option Addr) (c : Nat) (w : World) (hs : Sl w (.slice a l.length c) l.length (l.flatMap evL)) :
    Calls Try.prog 12 #[.slice a l.length c] w (MissPost l w) := by
  have HI := Lib.hid gap_info
  go_enter Try.func12, Try.ntmps12
  go_wp2_with fail
  refine (event_CheckLog l hok a c _ hs).mono ?_
  rintro e w1 ⟨rfl, hb1⟩
  by_cases hc : checkL l = 0
  · have hne : (checkL l != 0) = false := by simp [hc]
    obtain ⟨hck, hlen, _⟩ := check_ok hc
    have HC := Lib.hid hc
    have HCK := Lib.hid hck
    clear hc hck hok
    go_wp2
    go_loopw [5, 16] (fun v i wr => ∃ k n : Nat, k ≤ l.length ∧ n ≤ k ∧ i = .int .i64 k ∧ wr.ownsRow w1.heap.size 44 3 v n ((gapsTo l k).flatMap gapL) ∧ Hid ((gapsTo l k).length = n) ∧ Below w1.heap.size w1 wr) (fun _ i _ => l.length - (intOf i).toNat)
    case atStart => exact ⟨0, 0, by omega, by omega, rfl, World.ownsRow_nil _ _ _ _, rfl, Below.refl _ _⟩
    case round =>
      obtain ⟨k, n, hk, hnk, rfl, hown, HN, hb⟩ := hrel
      by_cases hlt : k < l.length
      · have hgk := List.getElem?_eq_getElem hlt
        obtain ⟨hn1, hn2, _⟩ := number_ok (HCK.out l[k] (List.getElem_mem _))
        generalize l[k] = s at hgk hn1 hn2
        obtain ⟨b, o, rfl, e0, e1, e2, e3, e4, e5, e6, e7⟩ := ev_cells (hs.ext (ext_trans hb1 hb)) hgk
        have hb0 : ∀ q, u5.ownBlock = some q → w1.heap.size ≤ q := fun q hq => (hown.lt q hq).1
        have HB0 := Lib.hid hb0
        have HGK := Lib.hid hgk
        clear hb0 hgk
        go_upto_region 9 with (fail)
        clear e0 e1 e2 e3 e4 e5 e6 e7
        refine wp_box1 fun X hszX hbX hX => ?_
        have hbx := ext_trans hb hbX
        have hownX := ownsRow_ext hown hbX
        have hszx := hbx.size
        have g0 := hX.2 0
        have g1 := hX.2 1
        clear hszX hown hb hbX hX
        by_cases h0 : k = 0
        · subst h0
          have HX : Hid (nextAt l 0 = 1) := rfl
          go_quiet (fail)
          by_cases hg : 1 < s.number
          · have HG : Hid (gapsTo l (0 + 1) = gapsTo l (0) ++ [(s.shard, 1, s.number - 1)]) := gaps_yes HGK.out HX.out hg
            go_wp2_with (at_builtin; refine wpList_append_sl rfl _ _ 39 rfl w1.heap.size 44 Try.underlying39 HI.out rfl (by decide) rfl (ownsRow_ext (ownsRow_ext hownX (below_drewN (Below.refl _ _) nq)) (ext_alloc _ _)) rfl (Sl.new _ #[.string s.shard, .int .i64 (1), .int .i64 (s.number - 1)] _ 1 1 (by omega) (by decide)) rfl (by intro u hu; simp at hu; rcases hu with rfl | rfl | rfl <;> rfl) (by unfold maxLen; omega) (by omega) (by simp; omega) ?_; intro v7 w7 hown7 hg7 _)
            have hown8 : w7.ownsRow w1.heap.size 44 3 v7 (n + 1) ((gapsTo l (0 + 1)).flatMap gapL) := by rw [HG.out, List.flatMap_append]; simpa [gapL] using hown7
            have hb8 : Below w1.heap.size w1 w7 := (ext_trans (ext_trans hbx (below_drewN (Below.refl _ _) nq)) (ext_alloc _ _)).grown hg7 (by simp; omega) (fun q hq => HB0.out q hq)
            have HN3 : Hid ((gapsTo l (0 + 1)).length = n + 1) := by
              have h1 := HN.out
              exact (by rw [HG.out, List.length_append, h1]; rfl : (gapsTo l (0 + 1)).length = n + 1)
            clear hown7 hg7
            go_wp2
            go_roundw
            case rel => exact ⟨0 + 1, n + 1, by omega, by omega, by go_num, hown8, HN3, hb8⟩
            case measure => simp [intOf]; omega
          · have HG : Hid (gapsTo l (0 + 1) = gapsTo l (0)) := gaps_no HGK.out HX.out hg
            have hown8 : (X.drewN nq).ownsRow w1.heap.size 44 3 u5 n ((gapsTo l (0 + 1)).flatMap gapL) := by rw [HG.out]; exact ownsRow_ext hownX (below_drewN (Below.refl _ _) nq)
            have hb8 := ext_trans hbx (below_drewN (Below.refl _ _) nq)
            have HN3 : Hid ((gapsTo l (0 + 1)).length = n) := by rw [HG.out]; exact HN
            go_wp2
            go_roundw
            case rel => exact ⟨0 + 1, n, by omega, by omega, by go_num, hown8, HN3, hb8⟩
            case measure => simp [intOf]; omega
        · obtain ⟨j, rfl⟩ : ∃ j, k = j + 1 := ⟨k - 1, by omega⟩
          have hgj := List.getElem?_eq_getElem (show j < l.length by omega)
          obtain ⟨hm1, hm2, _⟩ := number_ok (HCK.out l[j] (List.getElem_mem _))
          have hnx : nextAt l (j + 1) = if (l[j]).shard = s.shard then (l[j]).number + 1 else 1 := by rw [nextAt, hgj, HGK.out]
          generalize l[j] = s' at hgj hm1 hm2 hnx
          obtain ⟨b', o', hb', f0, f1, _⟩ := ev_cells (hs.ext (ext_trans hb1 hbx)) hgj
          cases hb'
          have hj0 : (0 : Int) ≤ (j : Int) := Int.natCast_nonneg _
          have hj1 : (j : Int) < (l.length : Int) := by omega
          have hpos : decide ((0 : Int) < (j : Int) + 1) = true := decide_eq_true (by omega)
          have hwj : IntKind.i64.wrap (j : Int) = (j : Int) := IntWalk.i64_in _ (by omega)
          clear hgj h0
          by_cases hq : s'.shard = s.shard
          · have hq1 : (s'.shard.toList == s.shard.toList) = true := by rw [hq]; simp
            have HX : Hid (nextAt l (j + 1) = s'.number + 1) := by rw [if_pos hq] at hnx; exact hnx
            clear hq hnx
            go_quiet (fail)
            clear hwj hpos
            by_cases hg : s'.number + 1 < s.number
            · have HG : Hid (gapsTo l (j + 1 + 1) = gapsTo l (j + 1) ++ [(s.shard, s'.number + 1, s.number - 1)]) := gaps_yes HGK.out HX.out hg
              go_wp2_with (at_builtin; refine wpList_append_sl rfl _ _ 39 rfl w1.heap.size 44 Try.underlying39 HI.out rfl (by decide) rfl (ownsRow_ext (ownsRow_ext hownX (below_drewN (Below.refl _ _) nq)) (ext_alloc _ _)) rfl (Sl.new _ #[.string s.shard, .int .i64 (s'.number + 1), .int .i64 (s.number - 1)] _ 1 1 (by omega) (by decide)) rfl (by intro u hu; simp at hu; rcases hu with rfl | rfl | rfl <;> rfl) (by unfold maxLen; omega) (by omega) (by simp; omega) ?_; intro v7 w7 hown7 hg7 _)
              have hown8 : w7.ownsRow w1.heap.size 44 3 v7 (n + 1) ((gapsTo l (j + 1 + 1)).flatMap gapL) := by rw [HG.out, List.flatMap_append]; simpa [gapL] using hown7
              have hb8 : Below w1.heap.size w1 w7 := (ext_trans (ext_trans hbx (below_drewN (Below.refl _ _) nq)) (ext_alloc _ _)).grown hg7 (by simp; omega) (fun q hq => HB0.out q hq)
              have HN3 : Hid ((gapsTo l (j + 1 + 1)).length = n + 1) := by
                have h1 := HN.out
                exact (by rw [HG.out, List.length_append, h1]; rfl : (gapsTo l (j + 1 + 1)).length = n + 1)
              clear hown7 hg7
              go_wp2
              go_roundw
              case rel => exact ⟨j + 1 + 1, n + 1, by omega, by omega, by go_num, hown8, HN3, hb8⟩
              case measure => simp [intOf]; omega
            · have HG : Hid (gapsTo l (j + 1 + 1) = gapsTo l (j + 1)) := gaps_no HGK.out HX.out hg
              have hown8 : (X.drewN nq).ownsRow w1.heap.size 44 3 u5 n ((gapsTo l (j + 1 + 1)).flatMap gapL) := by rw [HG.out]; exact ownsRow_ext hownX (below_drewN (Below.refl _ _) nq)
              have hb8 := ext_trans hbx (below_drewN (Below.refl _ _) nq)
              have HN3 : Hid ((gapsTo l (j + 1 + 1)).length = n) := by rw [HG.out]; exact HN
              go_wp2
              go_roundw
              case rel => exact ⟨j + 1 + 1, n, by omega, by omega, by go_num, hown8, HN3, hb8⟩
              case measure => simp [intOf]; omega
          · have hq1 : (s'.shard.toList == s.shard.toList) = false := by
              simp only [beq_eq_false_iff_ne, ne_eq, ByteArray.toList_eq]; exact fun h => hq (bytes_ext h)
            have HX : Hid (nextAt l (j + 1) = 1) := by rw [if_neg hq] at hnx; exact hnx
            clear hq hnx
            go_quiet (fail)
            clear hwj hpos
            by_cases hg : 1 < s.number
            · have HG : Hid (gapsTo l (j + 1 + 1) = gapsTo l (j + 1) ++ [(s.shard, 1, s.number - 1)]) := gaps_yes HGK.out HX.out hg
              go_wp2_with (at_builtin; refine wpList_append_sl rfl _ _ 39 rfl w1.heap.size 44 Try.underlying39 HI.out rfl (by decide) rfl (ownsRow_ext (ownsRow_ext hownX (below_drewN (Below.refl _ _) nq)) (ext_alloc _ _)) rfl (Sl.new _ #[.string s.shard, .int .i64 (1), .int .i64 (s.number - 1)] _ 1 1 (by omega) (by decide)) rfl (by intro u hu; simp at hu; rcases hu with rfl | rfl | rfl <;> rfl) (by unfold maxLen; omega) (by omega) (by simp; omega) ?_; intro v7 w7 hown7 hg7 _)
              have hown8 : w7.ownsRow w1.heap.size 44 3 v7 (n + 1) ((gapsTo l (j + 1 + 1)).flatMap gapL) := by rw [HG.out, List.flatMap_append]; simpa [gapL] using hown7
              have hb8 : Below w1.heap.size w1 w7 := (ext_trans (ext_trans hbx (below_drewN (Below.refl _ _) nq)) (ext_alloc _ _)).grown hg7 (by simp; omega) (fun q hq => HB0.out q hq)
              have HN3 : Hid ((gapsTo l (j + 1 + 1)).length = n + 1) := by
                have h1 := HN.out
                exact (by rw [HG.out, List.length_append, h1]; rfl : (gapsTo l (j + 1 + 1)).length = n + 1)
              clear hown7 hg7
              go_wp2
              go_roundw
              case rel => exact ⟨j + 1 + 1, n + 1, by omega, by omega, by go_num, hown8, HN3, hb8⟩
              case measure => simp [intOf]; omega
            · have HG : Hid (gapsTo l (j + 1 + 1) = gapsTo l (j + 1)) := gaps_no HGK.out HX.out hg
              have hown8 : (X.drewN nq).ownsRow w1.heap.size 44 3 u5 n ((gapsTo l (j + 1 + 1)).flatMap gapL) := by rw [HG.out]; exact ownsRow_ext hownX (below_drewN (Below.refl _ _) nq)
              have hb8 := ext_trans hbx (below_drewN (Below.refl _ _) nq)
              have HN3 : Hid ((gapsTo l (j + 1 + 1)).length = n) := by rw [HG.out]; exact HN
              go_wp2
              go_roundw
              case rel => exact ⟨j + 1 + 1, n, by omega, by omega, by go_num, hown8, HN3, hb8⟩
              case measure => simp [intOf]; omega
      · have hkl : k = l.length := by omega
        have HL : Hid (missL l = gapsTo l k) := by
          have : missL l = gapsTo l k := by unfold missL; rw [if_pos HC.out, hkl]
          exact this
        clear hkl
        obtain ⟨a3, c3, rfl, _⟩ := Sl.ofOwn hown
        go_wp2
        go_ret2
        refine ⟨a3, c3, ?_, ?_, ext_trans hb1 hb⟩
        · rw [HL.out, HN.out, HC.out]; rfl
        · rw [HL.out, HN.out]; exact Sl.ofOwn hown
  · have hne : (checkL l != 0) = true := by simp [hc]
    have HL : Hid (missL l = []) := by
      have : missL l = [] := by unfold missL; rw [if_neg hc]
      exact this
    clear hc hok
    go_wp2
    go_ret2
    refine ⟨none, 0, ?_, ?_, hb1⟩
    · rw [HL.out]; rfl
    · rw [HL.out]; exact Sl.nil _

set_option maxHeartbeats 8000000 in
theorem ref7_Missing (l : List Ev) (hok : ∀ e ∈ l, e.ok) (a : Option Addr) (c : Nat) (w : World) (hs : Sl w (.slice a l.length c) l.length (l.flatMap evL)) :
    Calls Try.prog 13 #[.slice a l.length c] w (MissPost l w) := by
  have HI := Lib.hid gap_info
  go_enter Try.func13, Try.ntmps13
  go_wp2_with fail
  refine (ref7_CheckLog l hok a c _ hs).mono ?_
  rintro e w1 ⟨rfl, hb1⟩
  by_cases hc : checkL l = 0
  · have hne : (checkL l != 0) = false := by simp [hc]
    obtain ⟨hck, hlen, _⟩ := check_ok hc
    have HC := Lib.hid hc
    have HCK := Lib.hid hck
    clear hc hck hok
    go_wp2
    go_loopw [5, 16] (fun v i wr => ∃ k n : Nat, k ≤ l.length ∧ n ≤ k ∧ i = .int .i64 k ∧ wr.ownsRow w1.heap.size 44 3 v n ((gapsTo l k).flatMap gapL) ∧ Hid ((gapsTo l k).length = n) ∧ Below w1.heap.size w1 wr) (fun _ i _ => l.length - (intOf i).toNat)
    case atStart => exact ⟨0, 0, by omega, by omega, rfl, World.ownsRow_nil _ _ _ _, rfl, Below.refl _ _⟩
    case round =>
      obtain ⟨k, n, hk, hnk, rfl, hown, HN, hb⟩ := hrel
      by_cases hlt : k < l.length
      · have hgk := List.getElem?_eq_getElem hlt
        obtain ⟨hn1, hn2, _⟩ := number_ok (HCK.out l[k] (List.getElem_mem _))
        generalize l[k] = s at hgk hn1 hn2
        obtain ⟨b, o, rfl, e0, e1, e2, e3, e4, e5, e6, e7⟩ := ev_cells (hs.ext (ext_trans hb1 hb)) hgk
        have hb0 : ∀ q, u5.ownBlock = some q → w1.heap.size ≤ q := fun q hq => (hown.lt q hq).1
        have HB0 := Lib.hid hb0
        have HGK := Lib.hid hgk
        clear hb0 hgk
        go_upto_region 9 with (fail)
        clear e0 e1 e2 e3 e4 e5 e6 e7
        refine wp_box1 fun X hszX hbX hX => ?_
        have hbx := ext_trans hb hbX
        have hownX := ownsRow_ext hown hbX
        have hszx := hbx.size
        have g0 := hX.2 0
        have g1 := hX.2 1
        clear hszX hown hb hbX hX
        by_cases h0 : k = 0
        · subst h0
          have HX : Hid (nextAt l 0 = 1) := rfl
          go_quiet (fail)
          by_cases hg : 1 < s.number
          · have HG : Hid (gapsTo l (0 + 1) = gapsTo l (0) ++ [(s.shard, 1, s.number - 1)]) := gaps_yes HGK.out HX.out hg
            go_wp2_with (at_builtin; refine wpList_append_sl rfl _ _ 39 rfl w1.heap.size 44 Try.underlying39 HI.out rfl (by decide) rfl (ownsRow_ext (ownsRow_ext hownX (below_drewN (Below.refl _ _) nq)) (ext_alloc _ _)) rfl (Sl.new _ #[.string s.shard, .int .i64 (1), .int .i64 (s.number - 1)] _ 1 1 (by omega) (by decide)) rfl (by intro u hu; simp at hu; rcases hu with rfl | rfl | rfl <;> rfl) (by unfold maxLen; omega) (by omega) (by simp; omega) ?_; intro v7 w7 hown7 hg7 _)
            have hown8 : w7.ownsRow w1.heap.size 44 3 v7 (n + 1) ((gapsTo l (0 + 1)).flatMap gapL) := by rw [HG.out, List.flatMap_append]; simpa [gapL] using hown7
            have hb8 : Below w1.heap.size w1 w7 := (ext_trans (ext_trans hbx (below_drewN (Below.refl _ _) nq)) (ext_alloc _ _)).grown hg7 (by simp; omega) (fun q hq => HB0.out q hq)
            have HN3 : Hid ((gapsTo l (0 + 1)).length = n + 1) := by
              have h1 := HN.out
              exact (by rw [HG.out, List.length_append, h1]; rfl : (gapsTo l (0 + 1)).length = n + 1)
            clear hown7 hg7
            go_wp2
            go_roundw
            case rel => exact ⟨0 + 1, n + 1, by omega, by omega, by go_num, hown8, HN3, hb8⟩
            case measure => simp [intOf]; omega
          · have HG : Hid (gapsTo l (0 + 1) = gapsTo l (0)) := gaps_no HGK.out HX.out hg
            have hown8 : (X.drewN nq).ownsRow w1.heap.size 44 3 u5 n ((gapsTo l (0 + 1)).flatMap gapL) := by rw [HG.out]; exact ownsRow_ext hownX (below_drewN (Below.refl _ _) nq)
            have hb8 := ext_trans hbx (below_drewN (Below.refl _ _) nq)
            have HN3 : Hid ((gapsTo l (0 + 1)).length = n) := by rw [HG.out]; exact HN
            go_wp2
            go_roundw
            case rel => exact ⟨0 + 1, n, by omega, by omega, by go_num, hown8, HN3, hb8⟩
            case measure => simp [intOf]; omega
        · obtain ⟨j, rfl⟩ : ∃ j, k = j + 1 := ⟨k - 1, by omega⟩
          have hgj := List.getElem?_eq_getElem (show j < l.length by omega)
          obtain ⟨hm1, hm2, _⟩ := number_ok (HCK.out l[j] (List.getElem_mem _))
          have hnx : nextAt l (j + 1) = if (l[j]).shard = s.shard then (l[j]).number + 1 else 1 := by rw [nextAt, hgj, HGK.out]
          generalize l[j] = s' at hgj hm1 hm2 hnx
          obtain ⟨b', o', hb', f0, f1, _⟩ := ev_cells (hs.ext (ext_trans hb1 hbx)) hgj
          cases hb'
          have hj0 : (0 : Int) ≤ (j : Int) := Int.natCast_nonneg _
          have hj1 : (j : Int) < (l.length : Int) := by omega
          have hpos : decide ((0 : Int) < (j : Int) + 1) = true := decide_eq_true (by omega)
          have hwj : IntKind.i64.wrap (j : Int) = (j : Int) := IntWalk.i64_in _ (by omega)
          clear hgj h0
          by_cases hq : s'.shard = s.shard
          · have hq1 : (s'.shard.toList == s.shard.toList) = true := by rw [hq]; simp
            have HX : Hid (nextAt l (j + 1) = s'.number + 1) := by rw [if_pos hq] at hnx; exact hnx
            clear hq hnx
            go_quiet (fail)
            clear hwj hpos
            by_cases hg : s'.number + 1 < s.number
            · have HG : Hid (gapsTo l (j + 1 + 1) = gapsTo l (j + 1) ++ [(s.shard, s'.number + 1, s.number - 1)]) := gaps_yes HGK.out HX.out hg
              go_wp2_with (at_builtin; refine wpList_append_sl rfl _ _ 39 rfl w1.heap.size 44 Try.underlying39 HI.out rfl (by decide) rfl (ownsRow_ext (ownsRow_ext hownX (below_drewN (Below.refl _ _) nq)) (ext_alloc _ _)) rfl (Sl.new _ #[.string s.shard, .int .i64 (s'.number + 1), .int .i64 (s.number - 1)] _ 1 1 (by omega) (by decide)) rfl (by intro u hu; simp at hu; rcases hu with rfl | rfl | rfl <;> rfl) (by unfold maxLen; omega) (by omega) (by simp; omega) ?_; intro v7 w7 hown7 hg7 _)
              have hown8 : w7.ownsRow w1.heap.size 44 3 v7 (n + 1) ((gapsTo l (j + 1 + 1)).flatMap gapL) := by rw [HG.out, List.flatMap_append]; simpa [gapL] using hown7
              have hb8 : Below w1.heap.size w1 w7 := (ext_trans (ext_trans hbx (below_drewN (Below.refl _ _) nq)) (ext_alloc _ _)).grown hg7 (by simp; omega) (fun q hq => HB0.out q hq)
              have HN3 : Hid ((gapsTo l (j + 1 + 1)).length = n + 1) := by
                have h1 := HN.out
                exact (by rw [HG.out, List.length_append, h1]; rfl : (gapsTo l (j + 1 + 1)).length = n + 1)
              clear hown7 hg7
              go_wp2
              go_roundw
              case rel => exact ⟨j + 1 + 1, n + 1, by omega, by omega, by go_num, hown8, HN3, hb8⟩
              case measure => simp [intOf]; omega
            · have HG : Hid (gapsTo l (j + 1 + 1) = gapsTo l (j + 1)) := gaps_no HGK.out HX.out hg
              have hown8 : (X.drewN nq).ownsRow w1.heap.size 44 3 u5 n ((gapsTo l (j + 1 + 1)).flatMap gapL) := by rw [HG.out]; exact ownsRow_ext hownX (below_drewN (Below.refl _ _) nq)
              have hb8 := ext_trans hbx (below_drewN (Below.refl _ _) nq)
              have HN3 : Hid ((gapsTo l (j + 1 + 1)).length = n) := by rw [HG.out]; exact HN
              go_wp2
              go_roundw
              case rel => exact ⟨j + 1 + 1, n, by omega, by omega, by go_num, hown8, HN3, hb8⟩
              case measure => simp [intOf]; omega
          · have hq1 : (s'.shard.toList == s.shard.toList) = false := by
              simp only [beq_eq_false_iff_ne, ne_eq, ByteArray.toList_eq]; exact fun h => hq (bytes_ext h)
            have HX : Hid (nextAt l (j + 1) = 1) := by rw [if_neg hq] at hnx; exact hnx
            clear hq hnx
            go_quiet (fail)
            clear hwj hpos
            by_cases hg : 1 < s.number
            · have HG : Hid (gapsTo l (j + 1 + 1) = gapsTo l (j + 1) ++ [(s.shard, 1, s.number - 1)]) := gaps_yes HGK.out HX.out hg
              go_wp2_with (at_builtin; refine wpList_append_sl rfl _ _ 39 rfl w1.heap.size 44 Try.underlying39 HI.out rfl (by decide) rfl (ownsRow_ext (ownsRow_ext hownX (below_drewN (Below.refl _ _) nq)) (ext_alloc _ _)) rfl (Sl.new _ #[.string s.shard, .int .i64 (1), .int .i64 (s.number - 1)] _ 1 1 (by omega) (by decide)) rfl (by intro u hu; simp at hu; rcases hu with rfl | rfl | rfl <;> rfl) (by unfold maxLen; omega) (by omega) (by simp; omega) ?_; intro v7 w7 hown7 hg7 _)
              have hown8 : w7.ownsRow w1.heap.size 44 3 v7 (n + 1) ((gapsTo l (j + 1 + 1)).flatMap gapL) := by rw [HG.out, List.flatMap_append]; simpa [gapL] using hown7
              have hb8 : Below w1.heap.size w1 w7 := (ext_trans (ext_trans hbx (below_drewN (Below.refl _ _) nq)) (ext_alloc _ _)).grown hg7 (by simp; omega) (fun q hq => HB0.out q hq)
              have HN3 : Hid ((gapsTo l (j + 1 + 1)).length = n + 1) := by
                have h1 := HN.out
                exact (by rw [HG.out, List.length_append, h1]; rfl : (gapsTo l (j + 1 + 1)).length = n + 1)
              clear hown7 hg7
              go_wp2
              go_roundw
              case rel => exact ⟨j + 1 + 1, n + 1, by omega, by omega, by go_num, hown8, HN3, hb8⟩
              case measure => simp [intOf]; omega
            · have HG : Hid (gapsTo l (j + 1 + 1) = gapsTo l (j + 1)) := gaps_no HGK.out HX.out hg
              have hown8 : (X.drewN nq).ownsRow w1.heap.size 44 3 u5 n ((gapsTo l (j + 1 + 1)).flatMap gapL) := by rw [HG.out]; exact ownsRow_ext hownX (below_drewN (Below.refl _ _) nq)
              have hb8 := ext_trans hbx (below_drewN (Below.refl _ _) nq)
              have HN3 : Hid ((gapsTo l (j + 1 + 1)).length = n) := by rw [HG.out]; exact HN
              go_wp2
              go_roundw
              case rel => exact ⟨j + 1 + 1, n, by omega, by omega, by go_num, hown8, HN3, hb8⟩
              case measure => simp [intOf]; omega
      · have hkl : k = l.length := by omega
        have HL : Hid (missL l = gapsTo l k) := by
          have : missL l = gapsTo l k := by unfold missL; rw [if_pos HC.out, hkl]
          exact this
        clear hkl
        obtain ⟨a3, c3, rfl, _⟩ := Sl.ofOwn hown
        go_wp2
        go_ret2
        refine ⟨a3, c3, ?_, ?_, ext_trans hb1 hb⟩
        · rw [HL.out, HN.out, HC.out]; rfl
        · rw [HL.out, HN.out]; exact Sl.ofOwn hown
  · have hne : (checkL l != 0) = true := by simp [hc]
    have HL : Hid (missL l = []) := by
      have : missL l = [] := by unfold missL; rw [if_neg hc]
      exact this
    clear hc hok
    go_wp2
    go_ret2
    refine ⟨none, 0, ?_, ?_, hb1⟩
    · rw [HL.out]; rfl
    · rw [HL.out]; exact Sl.nil _
end Go.Proofs.Ytbbfdkjamjmbmaa
