/- slices.Equal at visits, ints; tables that are the same. Printed by gen_lawvis.py. Plain: the reference's first exposures are the program's; first and last days. No program stands in it. The reference's CheckLog. -/
import Derived.Test.YtacchooggifnhaaTv02
import Derived.Test.YtacchooggifnhaaTv14
import Derived.Test.YtacchooggifnhaaTv03
import Derived.Test.YtacchooggifnhaaTv00
import Derived.Test.YtacchooggifnhaaShelf
import Derived.Test.YtacchooggifnhaaProg
import Derived.Test.YtacchooggifnhaaTv04
import Derived.Test.YtacchooggifnhaaTv05
import Derived.Test.YtacchooggifnhaaTv06
import Derived.Test.YtacchooggifnhaaTv07
import Derived.Test.YtacchooggifnhaaTv08
import Derived.Test.YtacchooggifnhaaTv09
import Derived.Test.YtacchooggifnhaaTv10
import Derived.Test.YtacchooggifnhaaTv01
namespace Go.Proofs.Ytacchooggifnhaa
open Go.RowKit
namespace Ex
theorem one_cell {w : World} {a : Option Addr} {n c k : Nat} {cs : List Value} {x : Value} (s : Sl w (.slice a n c) n cs) (h : cs[k]? = some x) : ∃ b o, a = some ⟨b, o, none⟩ ∧ w.cell? ⟨b, o + k, none⟩ = some x := by
  obtain ⟨a', cap, hv, _, _, _, h3⟩ := s
  cases hv
  obtain ⟨b, o, rfl, hc⟩ := h3 k x h
  exact ⟨b, o, rfl, hc⟩
set_option maxRecDepth 100000 in
set_option maxHeartbeats 16000000 in
theorem equal_visits (l : List Vis) (a a' : Option Addr) (c c' : Nat) (w : World) (s1 : Sl w (.slice a l.length c) l.length (l.flatMap viL)) (s2 : Sl w (.slice a' l.length c') l.length (l.flatMap viL)) :
    Calls Try.prog 10 #[.slice a l.length c, .slice a' l.length c'] w fun e w' => e = .returned (.bool true) ∧ Below w.heap.size w w' := by
  have hl := s1.len_le
  have hne : ((l.length : Int) != (l.length : Int)) = false := by simp
  go_enter Try.func10, Try.ntmps10
  go_wp2
  go_loopw [13] (fun i wr => ∃ k : Nat, k ≤ l.length ∧ i = .int .i64 k ∧ Below w.heap.size w wr) (fun i _ => l.length - (intOf i).toNat)
  case atStart => exact ⟨0, by omega, rfl, Below.refl _ _⟩
  case round =>
    obtain ⟨k, hk, rfl, hb⟩ := hrel
    by_cases hlt : k < l.length
    · have hgk := List.getElem?_eq_getElem hlt
      generalize l[k] = s at hgk
      obtain ⟨b, o, rfl, hcs⟩ := (s1.ext hb).elem viL_len (by omega : 0 < 3) hgk
      obtain ⟨b', o', rfl, hcs'⟩ := (s2.ext hb).elem viL_len (by omega : 0 < 3) hgk
      have e0 := hcs 0 _ rfl
      have f0 := hcs' 0 _ rfl
      have e1 := hcs 1 _ rfl
      have f1 := hcs' 1 _ rfl
      have e2 := hcs 2 _ rfl
      have f2 := hcs' 2 _ rfl
      rw [Nat.add_zero] at e0 f0
      clear hcs hcs' hgk
      have hi0 : (0 : Int) ≤ (k : Int) := Int.natCast_nonneg _
      have hi1 : (k : Int) < (l.length : Int) := by omega
      go_wp2_with fail
      go_quiet (fail)
      go_wp2
      exact ⟨⟨k + 1, by omega, by go_num, below_drewN hb _⟩, by simp [intOf]; omega⟩
    · go_wp2
      go_ret
      exact ⟨rfl, hb⟩
set_option maxRecDepth 100000 in
set_option maxHeartbeats 16000000 in
theorem equal_ints (l : List Int) (a a' : Option Addr) (c c' : Nat) (w : World) (s1 : Sl w (.slice a l.length c) l.length (l.map (Value.int .i64))) (s2 : Sl w (.slice a' l.length c') l.length (l.map (Value.int .i64))) :
    Calls Try.prog 37 #[.slice a l.length c, .slice a' l.length c'] w fun e w' => e = .returned (.bool true) ∧ Below w.heap.size w w' := by
  have hl := s1.len_le
  have hne : ((l.length : Int) != (l.length : Int)) = false := by simp
  go_enter Try.func37, Try.ntmps37
  go_wp2
  go_loopw [13] (fun i wr => ∃ k : Nat, k ≤ l.length ∧ i = .int .i64 k ∧ Below w.heap.size w wr) (fun i _ => l.length - (intOf i).toNat)
  case atStart => exact ⟨0, by omega, rfl, Below.refl _ _⟩
  case round =>
    obtain ⟨k, hk, rfl, hb⟩ := hrel
    by_cases hlt : k < l.length
    · have hgk : (l.map (Value.int .i64))[k]? = some ((Value.int .i64) l[k]) := by rw [List.getElem?_map, List.getElem?_eq_getElem hlt]; rfl
      generalize l[k] = s at hgk
      obtain ⟨b, o, rfl, e0⟩ := one_cell (s1.ext hb) hgk
      obtain ⟨b', o', rfl, f0⟩ := one_cell (s2.ext hb) hgk
      have hi0 : (0 : Int) ≤ (k : Int) := Int.natCast_nonneg _
      have hi1 : (k : Int) < (l.length : Int) := by omega
      clear hgk
      go_wp2_with fail
      go_quiet (fail)
      go_wp2
      exact ⟨⟨k + 1, by omega, by go_num, below_drewN hb _⟩, by simp [intOf]; omega⟩
    · go_wp2
      go_ret
      exact ⟨rfl, hb⟩
set_option maxRecDepth 100000 in
set_option maxHeartbeats 16000000 in
theorem sameTally_at (d : Int) (r : List Int) (a a' : Option Addr) (c c' : Nat) (w : World) (s1 : Sl w (.slice a r.length c) r.length (r.map (Value.int .i64))) (s2 : Sl w (.slice a' r.length c') r.length (r.map (Value.int .i64))) :
    Calls Try.prog 13 #[.agg #[.int .i64 d, .slice a r.length c], .agg #[.int .i64 d, .slice a' r.length c']] w fun e w' => e = .returned (.bool true) ∧ Below w.heap.size w w' := by
  have HS := Lib.hid s1
  have HS2 := Lib.hid s2
  have hdd : (d == d) = true := by simp
  clear s1 s2
  go_enter Try.func13, Try.ntmps13
  go_upto_region 1 with (fail)
  refine wp_box2 fun W hsz hbW hA hB => ?_
  have g0 : W.cell? ⟨w.heap.size, 0, none⟩ = some (.int .i64 d) := hA.2 0
  have g1 : W.cell? ⟨w.heap.size, 1, none⟩ = some (.slice a r.length c) := hA.2 1
  have f0 : W.cell? ⟨w.heap.size + 1, 0, none⟩ = some (.int .i64 d) := hB.2 0
  have f1 : W.cell? ⟨w.heap.size + 1, 1, none⟩ = some (.slice a' r.length c') := hB.2 1
  clear hsz hA hB
  go_wp2_with fail
  refine (equal_ints r a a' c c' W (HS.out.ext hbW) (HS2.out.ext hbW)).mono ?_
  rintro e w3 ⟨rfl, hb3⟩
  have hb4 := ext_trans hbW hb3
  clear g0 g1 f0 f1 hb3 hbW
  go_wp2
  go_ret
  exact ⟨rfl, hb4⟩
set_option maxRecDepth 100000 in
set_option maxHeartbeats 16000000 in
theorem equal_tallies (rows : List (Int × List Int)) (b b' : Option Addr) (d d' : Nat) (w : World) (h1 : TabAt w (.slice b rows.length d) rows) (h2 : TabAt w (.slice b' rows.length d') rows) :
    Calls Try.prog 12 #[.slice b rows.length d, .slice b' rows.length d', .func (.func 13) #[] #[]] w fun e w' => e = .returned (.bool true) ∧ Below w.heap.size w w' := by
  have hl : rows.length ≤ 9223372036854775807 := by obtain ⟨bs, _, s, _⟩ := h1; exact s.len_le
  have H1 := Lib.hid h1
  have H2 := Lib.hid h2
  have hne : ((rows.length : Int) != (rows.length : Int)) = false := by simp
  clear h1 h2
  go_enter Try.func12, Try.ntmps12
  go_wp2
  go_loopw [17] (fun i wr => ∃ k : Nat, k ≤ rows.length ∧ i = .int .i64 k ∧ Below w.heap.size w wr) (fun i _ => rows.length - (intOf i).toNat)
  case atStart => exact ⟨0, by omega, rfl, Below.refl _ _⟩
  case round =>
    obtain ⟨k, hk, rfl, hb⟩ := hrel
    by_cases hlt : k < rows.length
    · have hgk := List.getElem?_eq_getElem hlt
      generalize rows[k] = r at hgk
      obtain ⟨bs, hbl, hTs, hTr⟩ := H1.out.ext hb
      obtain ⟨p, hp⟩ : ∃ p, bs[k]? = some p := ⟨_, List.getElem?_eq_getElem (by omega)⟩
      have HR1 := Lib.hid (hTr k p r hp hgk)
      obtain ⟨x1, o1, rfl, e0, e1⟩ := tl_cells hTs (tlX_get hp hgk)
      obtain ⟨bs2, hbl2, hTs2, hTr2⟩ := H2.out.ext hb
      obtain ⟨p2, hp2⟩ : ∃ p, bs2[k]? = some p := ⟨_, List.getElem?_eq_getElem (by omega)⟩
      have HR2 := Lib.hid (hTr2 k p2 r hp2 hgk)
      obtain ⟨x2, o2, rfl, f0, f1⟩ := tl_cells hTs2 (tlX_get hp2 hgk)
      have hk0 : (0 : Int) ≤ (k : Int) := Int.natCast_nonneg _
      have hk1 : (k : Int) < (rows.length : Int) := by omega
      clear hgk hbl hbl2 hTs hTs2 hTr hTr2 hp hp2
      go_upto_region 6 with (fail)
      clear e0 e1
      refine wp_box1 fun X hszX hbX hX => ?_
      clear hszX
      replace f0 := cell_later hbX f0
      replace f1 := cell_later hbX f1
      have hbw := ext_trans hb hbX
      go_upto_region 7 with (fail)
      clear f0 f1
      refine wp_box1 fun Z hszZ hbZ hZ => ?_
      have hXZ := hX.ext hbZ
      have g0 : Z.cell? ⟨wr.heap.size, 0, none⟩ = some (.int .i64 r.1) := hXZ.2 0
      have g1 : Z.cell? ⟨wr.heap.size, 1, none⟩ = some (.slice (some ⟨p, 0, none⟩) r.2.length r.2.length) := hXZ.2 1
      have z0 : Z.cell? ⟨X.heap.size, 0, none⟩ = some (.int .i64 r.1) := hZ.2 0
      have z1 : Z.cell? ⟨X.heap.size, 1, none⟩ = some (.slice (some ⟨p2, 0, none⟩) r.2.length r.2.length) := hZ.2 1
      have HS1 := Lib.hid ((HR1.out.ext hbX).ext hbZ)
      have HS2 := Lib.hid ((HR2.out.ext hbX).ext hbZ)
      have hbz := ext_trans hbw hbZ
      clear hX hXZ hZ hszZ hbX hbZ hb hbw HR1 HR2
      go_wp2_with fail
      refine (sameTally_at r.1 r.2 (some ⟨p, 0, none⟩) (some ⟨p2, 0, none⟩) r.2.length r.2.length Z HS1.out HS2.out).mono ?_
      rintro e w5 ⟨rfl, hb5⟩
      have hb6 := ext_trans hbz hb5
      clear g0 g1 z0 z1 hbz hb5
      go_wp2
      go_roundw
      case rel => exact ⟨k + 1, by omega, by go_num, hb6⟩
      case measure => simp [intOf]; omega
    · go_wp2
      go_ret
      exact ⟨rfl, hb⟩
end Ex
end Go.Proofs.Ytacchooggifnhaa
namespace Go.Proofs.Ytacchooggifnhaa
namespace Ex
theorem scan_prs : ∀ (p : Option Ev) (l : List Ev), scanFrom p l = 0 → l.Pairwise (fun a b => ordE a b < 0) ∧ (∀ q, p = some q → ∀ x ∈ l, ordE q x < 0)
  | _, [], _ => ⟨List.Pairwise.nil, fun _ _ x hx => by cases hx⟩
  | p, e :: r, h => by
    unfold scanFrom at h
    by_cases hx : checkE e = 0
    · rw [if_neg (by simp [hx])] at h
      have aux : ∀ (b : Bool) (y : Int), (if b = true then (8 : Int) else y) = 0 → y = 0 := fun b y hy => by cases b <;> simp_all
      have h2 : scanFrom (some e) r = 0 := aux _ _ h
      obtain ⟨i1, i2⟩ := scan_prs (some e) r h2
      refine ⟨List.Pairwise.cons (i2 e rfl) i1, fun q hq x hxm => ?_⟩
      subst hq
      have hqe : ordE q e < 0 := by
        by_cases h3 : 0 ≤ ordE q e
        · exfalso; simp [h3] at h
        · omega
      rcases List.mem_cons.1 hxm with rfl | hxm
      · exact hqe
      · exact ordE_lt_trans hqe (i2 e rfl x hxm)
    · rw [if_pos hx] at h; omega
theorem checkL_asc {l : List Ev} (h : checkL l = 0) : l.Pairwise (fun a b => ordE a b < 0) := by
  unfold checkL at h
  by_cases h1 : 20000 < l.length
  · rw [if_pos h1] at h; cases h
  · rw [if_neg h1] at h
    by_cases h2 : scanFrom none l = 0
    · exact (scan_prs none l h2).1
    · rw [if_pos h2] at h; exact absurd h h2
theorem asc_before {l : List Ev} (h : l.Pairwise (fun a b => ordE a b < 0)) {k : Nat} {e o : Ev} (he : l[k]? = some e) (ho : o ∈ l.take k) : ordE o e < 0 := by
  obtain ⟨hk, rfl⟩ := List.getElem?_eq_some_iff.1 he
  obtain ⟨i, hi, rfl⟩ := List.getElem_of_mem ho
  rw [List.length_take] at hi
  rw [List.getElem_take]
  exact List.pairwise_iff_getElem.1 h i k (by omega) hk (by omega)
theorem look_first {x : ByteArray} {L : List Ev} {key : ByteArray} {o : Ev} {F : Fst} {M : Mix} (hs : expX x L = (F, M)) (h : look F key = some o) : o ∈ L := by
  have h1 := first_ok x L
  rw [hs] at h1
  exact (h1.2 _ (look_some_mem h)).2.1
/-- does an exposure come ahead of another one? -/
def soonB (a b : Ev) : Bool := decide (a.time < b.time) || decide (a.time = b.time) && decide (ordE a b < 0)
theorem soon_is {a b : Ev} (h : ordE b a < 0) : soonB a b = decide (a.time < b.time) := by
  have h1 := ordE_anti b a
  unfold soonB
  rw [decide_eq_false (show ¬ ordE a b < 0 by omega)]
  simp
theorem keys_new {F : Fst} {k : ByteArray} {e : Ev} (h : look F k = none) : keysOf (putL F k e) = keysOf F ++ [k] := by
  unfold keysOf
  rw [putL_keys, if_neg (look_none_keys.1 h)]
theorem keys_old {F : Fst} {k : ByteArray} {e o : Ev} (h : look F k = some o) : keysOf (putL F k e) = keysOf F := by
  unfold keysOf
  rw [putL_keys, if_pos (List.mem_map.2 ⟨_, look_some_mem h, rfl⟩)]
theorem keys_len (F : Fst) : (keysOf F).length = F.length := by unfold keysOf; rw [List.length_map]
/-- what the reference has of the keys so far -/
def outK (F : Fst) (M : Mix) (ks : List ByteArray) : List Sbj := (ks.filter (fun k => !mixB M k)).map (subjK F)
def mixK (M : Mix) (ks : List ByteArray) : List ByteArray := ks.filter (fun k => mixB M k)
theorem outK_yes {F : Fst} {M : Mix} {ks : List ByteArray} {i : Nat} {k : ByteArray} (hi : ks[i]? = some k) (h : mixB M k = false) : outK F M (ks.take (i + 1)) = outK F M (ks.take i) ++ [subjK F k] ∧ mixK M (ks.take (i + 1)) = mixK M (ks.take i) := by
  obtain ⟨hk, rfl⟩ := List.getElem?_eq_some_iff.1 hi
  unfold outK mixK
  rw [List.take_succ_eq_append_getElem hk, List.filter_append, List.filter_append]
  simp [h]
theorem outK_no {F : Fst} {M : Mix} {ks : List ByteArray} {i : Nat} {k : ByteArray} (hi : ks[i]? = some k) (h : mixB M k = true) : outK F M (ks.take (i + 1)) = outK F M (ks.take i) ∧ mixK M (ks.take (i + 1)) = mixK M (ks.take i) ++ [k] := by
  obtain ⟨hk, rfl⟩ := List.getElem?_eq_some_iff.1 hi
  unfold outK mixK
  rw [List.take_succ_eq_append_getElem hk, List.filter_append, List.filter_append]
  simp [h]
theorem outK_le (F : Fst) (M : Mix) (ks : List ByteArray) (i : Nat) : (outK F M (ks.take i)).length ≤ i ∧ (mixK M (ks.take i)).length ≤ i := by
  unfold outK mixK
  rw [List.length_map]
  have h1 := List.length_filter_le (fun k => !mixB M k) (ks.take i)
  have h2 := List.length_filter_le (fun k => mixB M k) (ks.take i)
  rw [List.length_take] at h1 h2
  omega
theorem first_look {F : Fst} {k : ByteArray} (h : k ∈ keysOf F) : ∃ e, look F k = some e ∧ subjK F k = subjOf (k, e) := by
  cases hl : look F k with
  | none => exact absurd h (look_none_keys.1 hl)
  | some e => exact ⟨e, rfl, by unfold subjK firstOf; rw [hl]; rfl⟩
/-! ### first and last days -/
def mmS (day : Int) (p : Int × Int) (s : Sbj) : Int × Int := (min p.1 (s.time / day), max p.2 (s.time / day))
def mmX (day : Int) (K : List Sbj) : Int × Int := K.foldl (mmS day) (4000000000, -1)
theorem mmX_snoc (day : Int) (K : List Sbj) (s : Sbj) : mmX day (K ++ [s]) = mmS day (mmX day K) s := by
  unfold mmX; rw [List.foldl_append]; rfl
/-- the least and the greatest day of some subjects -/
def MmOk (K : List Sbj) (day : Int) (p : Int × Int) : Prop := (K = [] ∧ p = (4000000000, -1)) ∨ (K ≠ [] ∧ ∃ lo hi : Nat, p = ((lo : Int), (hi : Int)) ∧ LoHi K day lo hi)
theorem mmX_ok {day : Int} {K : List Sbj} (h : ∀ s ∈ K, 0 ≤ s.time / day ∧ s.time / day ≤ 4000000000) : MmOk K day (mmX day K) := by
  have key : ∀ k, k ≤ K.length → MmOk (K.take k) day (mmX day (K.take k)) := by
    intro k
    induction k with
    | zero => intro _; rw [List.take_zero]; exact .inl ⟨rfl, rfl⟩
    | succ k ih =>
      intro hk
      have hg := h K[k] (List.getElem_mem _)
      rw [List.take_succ_eq_append_getElem (by omega), mmX_snoc]
      obtain ⟨q, hq⟩ : ∃ q : Nat, K[k].time / day = (q : Int) := ⟨(K[k].time / day).toNat, by omega⟩
      right
      refine ⟨List.append_ne_nil_of_right_ne_nil _ (by simp), ?_⟩
      have hlast : K[k] ∈ K.take k ++ [K[k]] := List.mem_append_right _ (List.mem_singleton.2 rfl)
      rcases ih (by omega) with ⟨h1, h2⟩ | ⟨h1, lo, hi, h2, ⟨m, hm, e1⟩, ⟨r, hr, e2⟩, h3⟩
      · rw [h2]
        refine ⟨q, q, ?_, ⟨K[k], hlast, hq⟩, ⟨K[k], hlast, hq⟩, fun s hs => ?_⟩
        · unfold mmS
          rw [hq]
          have a1 : min (4000000000 : Int) (q : Int) = (q : Int) := by omega
          have a2 : max (-1 : Int) (q : Int) = (q : Int) := by omega
          simp only [a1, a2]
        · rw [h1] at hs
          obtain rfl := List.mem_singleton.1 hs
          omega
      · rw [h2]
        refine ⟨min lo q, max hi q, ?_, ?_, ?_, fun s hs => ?_⟩
        · unfold mmS
          rw [hq]
          have a1 : min (lo : Int) (q : Int) = ((min lo q : Nat) : Int) := by omega
          have a2 : max (hi : Int) (q : Int) = ((max hi q : Nat) : Int) := by omega
          simp only [a1, a2]
        · by_cases hc : lo ≤ q
          · exact ⟨m, List.mem_append_left _ hm, by omega⟩
          · exact ⟨K[k], hlast, by omega⟩
        · by_cases hc : q ≤ hi
          · exact ⟨r, List.mem_append_left _ hr, by omega⟩
          · exact ⟨K[k], hlast, by omega⟩
        · rcases List.mem_append.1 hs with hs | hs
          · have := h3 s hs; omega
          · obtain rfl := List.mem_singleton.1 hs
            omega
  have := key K.length (Nat.le_refl _)
  rwa [List.take_length] at this
theorem filt_yes {K : List Sbj} {p : Sbj → Bool} {k : Nat} {s : Sbj} (h : K[k]? = some s) (hp : p s = true) : (K.take (k + 1)).filter p = (K.take k).filter p ++ [s] := by
  obtain ⟨hk, rfl⟩ := List.getElem?_eq_some_iff.1 h
  rw [List.take_succ_eq_append_getElem hk, List.filter_append]
  simp [hp]
theorem filt_no {K : List Sbj} {p : Sbj → Bool} {k : Nat} {s : Sbj} (h : K[k]? = some s) (hp : p s = false) : (K.take (k + 1)).filter p = (K.take k).filter p := by
  obtain ⟨hk, rfl⟩ := List.getElem?_eq_some_iff.1 h
  rw [List.take_succ_eq_append_getElem hk, List.filter_append]
  simp [hp]
end Ex
end Go.Proofs.Ytacchooggifnhaa
namespace Go.Proofs.Ytacchooggifnhaa
open Go.RowKit
set_option maxHeartbeats 4000000 in
theorem ref7_CheckLog (l : List Ev) (hok : ∀ e ∈ l, e.ok) (a : Option Addr) (c : Nat) (w : World) (hs : Sl w (.slice a l.length c) l.length (l.flatMap evL)) :
    Calls Try.prog 33 #[.slice a l.length c] w fun e w' => e = .returned (.int .i64 (checkL l)) ∧ Below w.heap.size w w' := by
  have HOK := Lib.hid hok
  clear hok
  by_cases hl : 20000 < l.length
  · have hc : checkL l = 2 := by unfold checkL; rw [if_pos hl]
    rw [hc]
    clear hc
    go_enter Try.func33, Try.ntmps33
    go_wp2
    go_ret
    exact ⟨rfl, Below.refl _ _⟩
  have HC : Hid (checkL l = if scanFrom none l ≠ 0 then scanFrom none l else if 50 < (shardsOf l).length then 2 else 0) := by
    have : checkL l = if scanFrom none l ≠ 0 then scanFrom none l else if 50 < (shardsOf l).length then 2 else 0 := by unfold checkL; rw [if_neg hl]
    exact this
  go_enter Try.func33, Try.ntmps33
  go_wp2
  go_loopw [11] (fun i wr => ∃ k : Nat, k ≤ l.length ∧ i = .int .i64 k ∧ Hid (scanFrom none l = scanFrom (prevE l k) (l.drop k)) ∧ Below w.heap.size w wr) (fun i _ => l.length - (intOf i).toNat)
  case atStart => exact ⟨0, by omega, rfl, rfl, Below.refl _ _⟩
  case round =>
    obtain ⟨k, hk, rfl, HK, hb⟩ := hrel
    by_cases hlt : k < l.length
    · have hgk := List.getElem?_eq_getElem hlt
      have hsok : (l[k]).ok := HOK.out _ (List.getElem_mem _)
      generalize l[k] = s at hgk hsok
      obtain ⟨b, o, rfl, e0, e1, e2, e3, e4, e5, e6, e7⟩ := ev_cells (hs.ext hb) hgk
      have HST := Lib.hid (scan_step (prevE l k) hgk)
      have HP : Hid (prevE l (k + 1) = some s) := hgk
      clear hgk
      go_upto_region 6 with (fail)
      clear e0 e1 e2 e3 e4 e5 e6 e7
      refine wp_box1 fun X hszX hbX hX => ?_
      obtain ⟨_, hX2⟩ := id hX
      clear hszX
      go_wp2_with fail
      refine (ref7_Check s hsok _).mono ?_
      rintro e w2 ⟨rfl, hb2⟩
      have hbx := ext_trans (ext_trans hb hbX) hb2
      have hX3 := hX.ext hb2
      clear hX hX2 hbX hb2
      by_cases hc : checkE s = 0
      · have hne : (checkE s != 0) = false := by simp [hc]
        have HS2 : Hid (scanFrom none l = if (match prevE l k with | none => false | some q => decide (0 ≤ ordE q s)) = true then 8 else scanFrom (some s) (l.drop (k + 1))) := by
          have := HK.out; rw [HST.out, if_neg (by simp [hc])] at this; exact this
        clear hc
        by_cases h0 : k = 0
        · subst h0
          have HS3 : Hid (scanFrom none l = scanFrom (prevE l (0 + 1)) (l.drop (0 + 1))) := by have := HS2.out; simp only [prevE] at this; rw [HP.out]; exact (by simpa using this : scanFrom none l = scanFrom (some s) (l.drop (0 + 1)))
          go_wp2_with fail
          go_quiet (fail)
          go_wp2
          exact ⟨⟨0 + 1, by omega, rfl, HS3, below_drewN hbx _⟩, by simp [intOf]; omega⟩
        · obtain ⟨j, rfl⟩ : ∃ j, k = j + 1 := ⟨k - 1, by omega⟩
          have hgj := List.getElem?_eq_getElem (show j < l.length by omega)
          have HS3 : Hid (scanFrom none l = if decide (0 ≤ ordE l[j] s) = true then 8 else scanFrom (prevE l (j + 1 + 1)) (l.drop (j + 1 + 1))) := by
            have := HS2.out; rw [show prevE l (j + 1) = some l[j] from hgj] at this; rw [HP.out]; exact this
          generalize l[j] = s' at hgj HS3
          obtain ⟨b', o', hb', f0, f1, f2, f3, f4, f5, f6, f7⟩ := ev_cells (hs.ext hbx) hgj
          cases hb'
          clear hgj h0 HS2 HST
          have hj0 : (0 : Int) ≤ (j : Int) := Int.natCast_nonneg _
          have hj1 : (j : Int) < (l.length : Int) := by omega
          have hpos : decide ((0 : Int) < (j : Int) + 1) = true := decide_eq_true (by omega)
          have hwj : IntKind.i64.wrap (j : Int) = (j : Int) := IntWalk.i64_in _ (by omega)
          by_cases ho : 0 ≤ ordE s' s
          · have HF : Hid (checkL l = 8) := by
              have h1 := HS3.out
              rw [if_pos (decide_eq_true ho)] at h1
              have h2 := HC.out
              rw [h1, if_pos (by decide)] at h2; exact h2
            have HD := Lib.hid (show decide (ordE s' s < 0) = false from decide_eq_false (by omega))
            go_wp2_with fail
            go_region_held3 (SE w2 wr.heap.size (evC s) b (o + j * 8) s') (first | exact SE.start hX3 ⟨f0, f1, f2, f3, f4, f5, f6, f7⟩ | exact SE.ext (by with_reducible assumption) (by with_reducible assumption) hX3 | assumption) (first | (go_at_call 57; refine (ref7_ahead s' s _).mono ?_; rw [HD.out]; rintro e w3 ⟨rfl, hb3⟩))
            have hb4 := ext_trans hbx.drew hb3
            clear hwj hpos f0 f1 f2 f3 f4 f5 f6 f7 hb3 hX3
            go_wp2
            go_ret
            exact ⟨ret_int HF.out.symm, hb4⟩
          · have HS4 : Hid (scanFrom none l = scanFrom (prevE l (j + 1 + 1)) (l.drop (j + 1 + 1))) := by
              have h1 := HS3.out
              rw [if_neg (by simp; omega)] at h1; exact h1
            have HD := Lib.hid (show decide (ordE s' s < 0) = true from decide_eq_true (by omega))
            go_wp2_with fail
            go_region_held3 (SE w2 wr.heap.size (evC s) b (o + j * 8) s') (first | exact SE.start hX3 ⟨f0, f1, f2, f3, f4, f5, f6, f7⟩ | exact SE.ext (by with_reducible assumption) (by with_reducible assumption) hX3 | assumption) (first | (go_at_call 57; refine (ref7_ahead s' s _).mono ?_; rw [HD.out]; rintro e w3 ⟨rfl, hb3⟩))
            have hb4 := ext_trans hbx.drew hb3
            clear hwj hpos f0 f1 f2 f3 f4 f5 f6 f7 hb3 hX3
            go_wp2
            go_roundw
            case rel => exact ⟨j + 1 + 1, by omega, by go_num, HS4, hb4⟩
            case measure => simp [intOf]; omega
      · have hne : (checkE s != 0) = true := by simp [hc]
        have HF : Hid (checkL l = checkE s) := by
          have h1 := HK.out
          rw [HST.out, if_pos hc] at h1
          have h2 := HC.out
          rw [h1, if_pos hc] at h2; exact h2
        clear hc
        go_wp2
        go_ret
        exact ⟨ret_int HF.out.symm, hbx⟩
    · have hz : scanFrom none l = 0 := by
        have := HK.out
        rw [List.drop_eq_nil_of_le (by omega)] at this
        rw [this]; rfl
      have hsl := shardsTo_le l l.length
      by_cases h50 : 50 < (shardsOf l).length
      · have HF : Hid (checkL l = 2) := by have h2 := HC.out; rw [hz, if_neg (by simp), if_pos h50] at h2; exact h2
        clear hz
        go_wp2_with fail
        refine (ref7_shards l (by omega) a c _ (hs.ext hb)).mono ?_
        rintro e w2 ⟨a2, c2, rfl, _, hb2⟩
        go_wp2
        go_ret
        exact ⟨ret_int HF.out.symm, ext_trans hb hb2⟩
      · have HF : Hid (checkL l = 0) := by have h2 := HC.out; rw [hz, if_neg (by simp), if_neg h50] at h2; exact h2
        clear hz
        go_wp2_with fail
        refine (ref7_shards l (by omega) a c _ (hs.ext hb)).mono ?_
        rintro e w2 ⟨a2, c2, rfl, _, hb2⟩
        go_wp2
        go_ret
        exact ⟨ret_int HF.out.symm, ext_trans hb hb2⟩
end Go.Proofs.Ytacchooggifnhaa
