/- The stable sort at subjects in a row of the call's own. Printed by gen_trl.py. Trials of package decide. Printed by gen_trl.py. -/
import Derived.Test.YtemenlcigengeaaGreatDoorTq09
import Derived.Test.YtemenlcigengeaaGreatDoorTq12
namespace Go.Proofs.YtemenlcigengeaaGreatDoor
open Go.RowKit Go.Sort Go.Shelf
namespace Tr
theorem ltT_swo : SWO ltT where
  irrefl x := by rw [ltT_not]; exact .inr ⟨cmpT_self _, Nat.le_refl _⟩
  trans x y z h k := by
    rw [ltT_iff] at *
    rcases h with h | ⟨h, h'⟩ <;> rcases k with k | ⟨k, k'⟩
    · exact .inl (cmpT_ltt h k)
    · exact .inl (cmpT_lt_le h (by omega))
    · exact .inl (cmpT_le_lt (by omega) k)
    · have h1 := @cmpT_trans x.1 y.1 z.1 (by omega) (by omega)
      have h2 := @cmpT_trans z.1 y.1 x.1 (by rw [cmpT_anti, k]; decide) (by rw [cmpT_anti, h]; decide)
      rw [cmpT_anti] at h2
      exact .inr ⟨by omega, by omega⟩
  ntrans x y z h k := by
    rw [ltT_not] at *
    rcases h with h | ⟨h, h'⟩ <;> rcases k with k | ⟨k, k'⟩
    · exact .inl (cmpT_ltt k h)
    · exact .inl (cmpT_le_lt (by omega) h)
    · exact .inl (cmpT_lt_le k (by omega))
    · have h1 := @cmpT_trans z.1 y.1 x.1 (by omega) (by omega)
      have h2 := @cmpT_trans x.1 y.1 z.1 (by rw [cmpT_anti, h]; decide) (by rw [cmpT_anti, k]; decide)
      rw [cmpT_anti] at h2
      exact .inr ⟨by omega, by omega⟩
/-- the tags are the places -/
def tg (S : List Sbj) : List TS := S.zipIdx
theorem tg_len (S : List Sbj) : (tg S).length = S.length := by simp [tg]
theorem tg_map (S : List Sbj) : (tg S).map Prod.fst = S := by simp [tg]
theorem tg_get {S : List Sbj} {i : Nat} (hi : i < (tg S).length) : ((tg S)[i]).2 = i := by simp [tg]
theorem tg_asc (S : List Sbj) : (tg S).Pairwise (fun a b => a.2 < b.2) := by
  rw [List.pairwise_iff_getElem]
  intro i j hi hj hij
  rw [tg_get, tg_get]; exact hij
def encT (x : TS) : List Value := sbL x.1
theorem flatT (T : List TS) : T.flatMap encT = (T.map Prod.fst).flatMap sbL := by rw [List.flatMap_map]; rfl
theorem encT_len (x : TS) : (encT x).length = 8 := sbL_len _
theorem flatT_get (U : List TS) (t : Nat) (ht : t < U.length * 8) : (U.flatMap encT)[t]? = some (flatK encT 8 U.toArray)[t]! := by
  rw [get_flatK _ _ _ _ (by simpa using ht)]
  have h1 : t / 8 < U.length := by omega
  have h2 : U[t / 8]? = some U.toArray[t / 8]! := by rw [getElem!_pos U.toArray _ (by simpa using h1)]; simp [h1]
  have h3 : t % 8 < (encT U.toArray[t / 8]!).length := by rw [encT_len]; omega
  have := flat_get encT_len U (t / 8) _ h2 (t % 8) _ (List.getElem?_eq_getElem h3)
  rw [show t / 8 * 8 + t % 8 = t by omega] at this
  rw [this, getElem!_pos (encT U.toArray[t / 8]!) _ h3]
theorem own_swk {w W : World} {base g cap : Nat} {e : TypeId} {cur : Array Value} {d : Array TS} (hS : SWK encT 8 w g 0 d W) (hb : base ≤ g) (hg : w.heap[g]? = some (.cells cur e (0, 0))) (hn : d.size ≤ cap) (hm : cap ≤ maxLen) (hs : cur.size = cap * 8) (H : HoldsK encT 8 W g 0 d) :
    W.ownsRow base e 8 (.slice (some ⟨g, 0, none⟩) d.size cap) d.size (d.toList.flatMap encT) := by
  have hblk : g < w.heap.size := (Array.getElem?_eq_some_iff.1 hg).1
  obtain ⟨n, os, rfl⟩ := hS
  obtain ⟨c2, h2, hsz⟩ : ∃ c2, (sortWorldK encT 8 w g 0 n d os).heap[g]? = some (.cells c2 e (0, 0)) ∧ c2.size = cur.size := by
    refine ⟨putCells id 0 (flatK encT 8 d) cur, ?_, by simp [putCells]⟩
    unfold sortWorldK
    rw [_root_.Go.Sort.heap_grow_old _ _ (by rw [size_putRowK]; exact hblk)]
    simp only [putRowK, putRow, mapBlock, Array.getElem?_modify]
    rw [if_pos trivial]
    show Option.map _ (w.heap[g]?) = _
    rw [hg]; rfl
  refine ⟨by rw [flat_length (f := encT) (sz := 8) (fun _ => rfl)]; simp, .inr ⟨g, cap, c2, rfl, hb, h2, hn, hm, by rw [hsz, hs], ?_⟩⟩
  apply List.ext_getElem?
  intro j
  by_cases hj : j < d.size * 8
  · rw [List.getElem?_take_of_lt hj, flatT_get d.toList j (by simpa using hj)]
    have h4 := (H j (by rw [size_flatK]; exact hj)).1
    simp only [World.cell?, h2, Nat.zero_add] at h4
    simpa using h4
  · rw [List.getElem?_take_eq_none (by omega), List.getElem?_eq_none]
    rw [flat_length (f := encT) (sz := 8) (fun _ => rfl)]; simpa using hj
set_option maxHeartbeats 2000000 in
theorem stable_nil (g : Nat) (w : World) : Calls Tryz.prog 62 #[.slice none 0 0, .int .i64 0, .func (.func g) #[] #[]] w fun e w' => e = .returned (.tuple #[]) ∧ w = w' := by
  go_enter Tryz.func62, Tryz.ntmps62
  go_wp2
  go_rounds 1
  go_rounds 1
  go_rounds 1
  go_end0
  exact ⟨rfl, rfl⟩
set_option maxHeartbeats 2000000 in
theorem sort_nil (g : Nat) (w : World) : Calls Tryz.prog 31 #[.slice none 0 0, .func (.func g) #[] #[]] w fun e w' => e = .returned (.tuple #[]) ∧ w = w' := by
  go_enter Tryz.func31, Tryz.ntmps31
  go_wp2_with (go_at_call 62; refine (stable_nil _ _).mono ?_; rintro e w' ⟨rfl, rfl⟩)
  go_end0
  exact ⟨rfl, rfl⟩
theorem swk_below {α : Type} [Inhabited α] {enc : α → List Value} {k : Nat} {w0 W : World} {blk off : Nat} {dk : Array α} {B : Nat} (h : SWK enc k w0 blk off dk W) (hB : B ≤ blk) (hblk : blk < w0.heap.size) : Below B w0 W := by
  obtain ⟨n, os, rfl⟩ := h
  refine ⟨rfl, rfl, rfl, ?_, fun j hj => ?_⟩
  · unfold sortWorldK; rw [_root_.Go.Sort.size_grow, size_putRowK]; exact Nat.le_add_right _ _
  · unfold sortWorldK
    rw [_root_.Go.Sort.heap_grow_old _ _ (by rw [size_putRowK]; show j < w0.heap.size; omega)]
    simp only [putRowK, putRow, mapBlock, Array.getElem?_modify]
    rw [if_neg (by omega)]; rfl
set_option maxRecDepth 100000 in
theorem sort_at (base : Nat) (S : List Sbj) (hl : S.length ≤ 20000) (v : Value) (w : World) (_hB : base ≤ w.heap.size) (hown : w.ownsRow base 57 8 v S.length (S.flatMap sbL)) :
    Calls Tryz.prog 31 #[v, .func (.func 32) #[] #[]] w fun e w' => e = .returned (.tuple #[]) ∧ ∃ R : List Sbj, R.length = S.length ∧ Stable S R ∧ w'.ownsRow base 57 8 v S.length (R.flatMap sbL) ∧ Below base w w' := by
  obtain ⟨h1, ⟨rfl, h2⟩ | ⟨g, cap, cur, rfl, hb, hg, hn, hm, hs, ht⟩⟩ := hown
  · obtain rfl := List.length_eq_zero_iff.1 h2
    refine (sort_nil _ w).mono ?_
    rintro e w' ⟨rfl, rfl⟩
    exact ⟨rfl, [], rfl, Stable.nil, World.ownsRow_nil _ _ _ _, Below.refl _ _⟩
  · have hfl : S.flatMap sbL = (tg S).flatMap encT := by rw [flatT, tg_map]
    have hH : HoldsK encT 8 w g 0 (tg S).toArray := by
      intro j hj
      rw [size_flatK] at hj
      have hj' : j < (tg S).length * 8 := by simpa using hj
      have h3 := flatT_get (tg S) j hj'
      rw [← hfl, ← ht, List.getElem?_take_of_lt (by rw [tg_len] at hj'; exact hj')] at h3
      constructor
      · simp only [World.cell?, hg, Nat.zero_add]
        simpa using h3
      · simp [World.frozen?, hg]
    have hblk : g < w.heap.size := (Array.getElem?_eq_some_iff.1 hg).1
    have hsz : (tg S).toArray.size = S.length := by simp [tg_len]
    have hU : ∀ x y, y < x → x < (tg S).toArray.size → (tg S).toArray[y]!.2 < (tg S).toArray[x]!.2 := fun x y hyx hx => by
      rw [getElem!_pos (tg S).toArray x hx, getElem!_pos (tg S).toArray y (Nat.lt_trans hyx hx)]
      simp only [List.getElem_toArray]
      rw [tg_get, tg_get]; exact hyx
    have hQ : ∀ x y : TS, y.2 < x.2 → ltT x y = ltOf cfT x y := fun x y h => by
      unfold ltT ltOf cfT
      rw [decide_eq_false (show ¬ x.2 < y.2 by omega)]; simp
    have hc := St.sortStable_at encT cfT (Q := fun x y => y.2 < x.2) hQ ltT_swo 32 #[] g 0 cap (tg S).toArray w (fun _ _ => by rfl) (ord_lays g 0 _ w) ⟨encT_len, (fun x => sbL_one x.1), hH, hblk⟩ hU (by omega)
    rw [hsz] at hc
    refine hc.mono ?_
    rintro e w' ⟨rfl, d', hp, hso, hS⟩
    have hds : d'.size = S.length := by have := hp.1; omega
    have hH2 : HoldsK encT 8 w' g 0 d' := hS.holds hblk hH (by omega)
    have hown2 := own_swk (base := base) hS hb hg (by omega) hm hs hH2
    rw [hds, flatT] at hown2
    refine ⟨rfl, d'.toList.map Prod.fst, by simp [hds], ?_, hown2, ?_⟩
    · obtain ⟨h5, _, hq⟩ := hp
      have e1 : (d'.extract 0 S.length).toList = d'.toList := by rw [← hds]; simp
      have e2 : ((tg S).toArray.extract 0 S.length).toList = tg S := by rw [← hsz]; simp
      rw [e1, e2] at hq
      have hst := stable_of_tags hq (tg_asc S) (by
        rw [List.pairwise_iff_getElem]
        intro i j hi hj hij
        have hi' : i < d'.size := by simpa using hi
        have hj' : j < d'.size := by simpa using hj
        have := hso i j (by omega) hij (by omega)
        rw [getElem!_pos d' i hi', getElem!_pos d' j hj'] at this
        simpa using this)
      rw [tg_map] at hst
      exact hst
    · exact swk_below hS hb hblk
end Tr
end Go.Proofs.YtemenlcigengeaaGreatDoor
namespace Go.Proofs.YtemenlcigengeaaGreatDoor
open Go.RowKit
namespace Tr
/-- what Trials answers -/
def TrR (l : List Sbj) (z o : Int) (L : List Tri) : Prop := if trlF l.length z o = 0 then ∃ R, Stable (l.filter (keepB z o)) R ∧ L = R.map (trial o) else L = []
theorem TrR.unique {l : List Sbj} {z o : Int} {L M : List Tri} (h : TrR l z o L) (k : TrR l z o M) : L = M := by
  unfold TrR at h k
  by_cases h0 : trlF l.length z o = 0
  · rw [if_pos h0] at h k
    obtain ⟨R, a, rfl⟩ := h
    obtain ⟨S, b, rfl⟩ := k
    rw [a.unique b]
  · rw [if_neg h0] at h k
    rw [h, k]
def TrPost (l : List Sbj) (z o : Int) (w : World) (e : Ending) (w' : World) : Prop := ∃ (L : List Tri) (a : Option Addr) (c : Nat), e = .returned (.tuple #[.slice a L.length c, .int .i64 (trlF l.length z o)]) ∧ Sl w' (.slice a L.length c) L.length (L.flatMap triL) ∧ TrR l z o L ∧ Below w.heap.size w w'
theorem trl_bad {l : List Sbj} {z o f : Int} {w w' : World} (h : trlF l.length z o = f) (hf : f ≠ 0) (hb : Below w.heap.size w w') : TrPost l z o w (.returned (.tuple #[.slice none 0 0, .int .i64 f])) w' :=
  ⟨[], none, 0, by rw [h]; rfl, Sl.nil w', by unfold TrR; rw [h, if_neg hf], hb⟩
theorem tri_info : (Tryz.prog.info? 34).map (fun i => (i.zero, i.size, i.bytes)) = some (some (.agg #[.int .i64 0, .bool false]), 2, 16) := by kernel_rfl
theorem triL_len (t : Tri) : (triL t).length = 2 := rfl
theorem own_skip {w : World} {base e size n : Nat} {v : Value} {xs : List Value} (h : w.ownsRow base e size v n xs) {p : Addr} (hp : ∀ q, v.ownBlock = some q → q ≠ p.block) (u : Value) : (w.setCell p u).ownsRow base e size v n xs := by
  obtain ⟨h1, h2 | ⟨g, cap, cur, hv, hB, hr, hr2⟩⟩ := h
  · exact ⟨h1, .inl h2⟩
  · exact ⟨h1, .inr ⟨g, cap, cur, hv, hB, (heap_setCell_other w p g u (fun e => hp g (by rw [hv]; rfl) e)).trans hr, hr2⟩⟩
theorem cell_later' {w w' : World} (hb : Below w.heap.size w w') {p : Addr} {v : Value} (h : w.cell? p = some v) : w'.cell? p = some v := (hb.cell (World.block_lt_of_cell? _ _ h)).trans h
set_option maxRecDepth 100000 in
set_option maxHeartbeats 16000000 in
theorem trials_at (l : List Sbj) (z o : Int) (a : Option Addr) (c : Nat) (w : World) (hs : Sl w (.slice a l.length c) l.length (l.flatMap sbL)) :
    Calls Tryz.prog 6 #[.slice a l.length c, .int .i64 z, .int .i64 o] w (TrPost l z o w) := by
  have HS := Lib.hid hs
  clear hs
  go_enter Tryz.func6, Tryz.ntmps6
  go_upto_region 1 with (fail)
  refine wp_box2 fun W hszW hbW hA hB => ?_
  have c0 : W.cell? ⟨w.heap.size, 0, none⟩ = some (.int .i64 z) := hA.2 0
  have c1 : W.cell? ⟨w.heap.size + 1, 0, none⟩ = some (.int .i64 o) := hB.2 0
  have hWs : w.heap.size + 2 ≤ W.heap.size := by have := hB.1; omega
  clear hszW hA hB
  by_cases hl : 20000 < l.length
  · have hF : Hid (trlF l.length z o = 2) := Lib.hid (if_pos hl)
    go_wp2
    go_ret2
    exact trl_bad hF.out (by decide) hbW
  have hl2 : l.length ≤ 20000 := by omega
  by_cases hz : z < 0 ∨ 19 < z
  · have hF : Hid (trlF l.length z o = 1) := Lib.hid (by unfold trlF; rw [if_neg hl, if_pos (by omega)])
    have HZ := Lib.hid hz
    clear hz hl
    go_wp2_with fail
    refine (dwithin_no z 0 19 HZ.out _).mono ?_
    rintro e w' ⟨rfl, rfl⟩
    go_wp2
    go_ret2
    exact trl_bad hF.out (by decide) hbW
  have hz1 : 0 ≤ z := by omega
  have hz2 : z ≤ 19 := by omega
  by_cases ho : o < 0 ∨ 19 < o
  · have hF : Hid (trlF l.length z o = 1) := Lib.hid (by unfold trlF; rw [if_neg hl, if_pos (by omega)])
    have HZ := Lib.hid ho
    have HZ1 := Lib.hid (And.intro hz1 hz2)
    clear hz ho hz1 hz2 hl
    go_wp2_with fail
    refine (dwithin_yes z 0 19 HZ1.out.1 HZ1.out.2 _).mono ?_
    rintro e w' ⟨rfl, rfl⟩
    go_wp2_with fail
    refine (dwithin_no o 0 19 HZ.out _).mono ?_
    rintro e w' ⟨rfl, rfl⟩
    go_wp2
    go_ret2
    exact trl_bad hF.out (by decide) hbW
  have ho1 : 0 ≤ o := by omega
  have ho2 : o ≤ 19 := by omega
  have HZ1 := Lib.hid (And.intro hz1 hz2)
  have HO1 := Lib.hid (And.intro ho1 ho2)
  by_cases hzo : z = o
  · have hF : Hid (trlF l.length z o = 13) := Lib.hid (by unfold trlF; rw [if_neg hl, if_neg (by omega), if_pos hzo])
    clear hz ho hz1 hz2 ho1 ho2 hl
    subst hzo
    go_wp2_with fail
    refine (dwithin_yes z 0 19 HZ1.out.1 HZ1.out.2 _).mono ?_
    rintro e w' ⟨rfl, rfl⟩
    go_wp2_with fail
    refine (dwithin_yes z 0 19 HZ1.out.1 HZ1.out.2 _).mono ?_
    rintro e w' ⟨rfl, rfl⟩
    go_wp2
    go_ret2
    exact trl_bad hF.out (by decide) hbW
  have hF : Hid (trlF l.length z o = 0) := Lib.hid (by unfold trlF; rw [if_neg hl, if_neg (by omega), if_neg hzo])
  have HCL := Lib.hid (cloneS_at l.length (l.flatMap sbL) a c W (HS.out.ext hbW) (flat_length sbL_len l) (sbs_one l) (by omega))
  clear hz ho hz1 hz2 ho1 ho2 hl
  go_wp2_with fail
  refine (dwithin_yes z 0 19 HZ1.out.1 HZ1.out.2 _).mono ?_
  rintro e w' ⟨rfl, rfl⟩
  go_wp2_with fail
  refine (dwithin_yes o 0 19 HO1.out.1 HO1.out.2 _).mono ?_
  rintro e w' ⟨rfl, rfl⟩
  go_wp2_with fail
  refine HCL.out.mono ?_
  rintro e w2 ⟨a2, c2, rfl, ho2, hb2⟩
  have z2 : w2.cell? ⟨w.heap.size, 0, none⟩ = some (.int .i64 z) := by rw [hb2.cell (p := ⟨w.heap.size, 0, none⟩) (by show w.heap.size < _; omega)]; exact c0
  have o2 : w2.cell? ⟨w.heap.size + 1, 0, none⟩ = some (.int .i64 o) := by rw [hb2.cell (p := ⟨w.heap.size + 1, 0, none⟩) (by show w.heap.size + 1 < _; omega)]; exact c1
  have HDL := Lib.hid (del_at W.heap.size l hl2 z o w.heap.size (w.heap.size + 1) _ w2 z2 o2 (by omega) (by omega) hb2.size ho2)
  have hb3 := ext_trans hbW hb2
  have HB3 := Lib.hid hb3
  have HB2 := Lib.hid hb2
  have HC0 := Lib.hid c0
  have HC1 := Lib.hid c1
  clear c0 c1 z2 o2 ho2 hb2 hb3 hbW HCL
  go_wp2_with fail
  refine HDL.out.mono ?_
  rintro e w3 ⟨hb4, v3, n3, rfl, HN, ho3⟩
  obtain rfl := HN.out
  obtain ⟨U, hU⟩ : ∃ U, U = l.filter (keepB z o) := ⟨_, rfl⟩
  rw [← hU] at ho3
  have hUl : U.length ≤ 20000 := by rw [hU]; exact Nat.le_trans (List.length_filter_le _ _) hl2
  obtain ⟨g3, k3, rfl, _⟩ := Sl.ofOwn ho3
  have hBW3 : W.heap.size ≤ w3.heap.size := Nat.le_trans HB2.out.size hb4.size
  have HSO := Lib.hid (sort_at W.heap.size U hUl _ w3 hBW3 ho3)
  have HU := Lib.hid hU
  have HB4 := Lib.hid hb4
  simp only
  clear hU ho3 hb4 HDL HN
  go_wp2_with fail
  refine HSO.out.mono ?_
  rintro e w4 ⟨rfl, R, hRl, hst, ho4, hb5⟩
  have HB5 : Hid (Below w.heap.size w w4) := Lib.hid ((HB3.out.trans (HB4.out.mono (by omega))).trans (hb5.mono (by omega)))
  have o4 : w4.cell? ⟨w.heap.size + 1, 0, none⟩ = some (.int .i64 o) := by
    rw [hb5.cell (p := ⟨w.heap.size + 1, 0, none⟩) (by show w.heap.size + 1 < _; omega), HB4.out.cell (p := ⟨w.heap.size + 1, 0, none⟩) (by show w.heap.size + 1 < _; omega), HB2.out.cell (p := ⟨w.heap.size + 1, 0, none⟩) (by show w.heap.size + 1 < _; omega)]
    exact HC1.out
  have hoS : w.heap.size + 1 < w4.heap.size := by have := hb5.size; have := HB4.out.size; have := HB2.out.size; omega
  rw [← hRl] at ho4 ⊢
  have HSR : Hid (Sl w4 (.slice g3 R.length k3) R.length (R.flatMap sbL)) := Lib.hid (Sl.ofOwn ho4)
  have HST : Hid (Stable (l.filter (keepB z o)) R) := Lib.hid (by rw [← HU.out]; exact hst)
  have hR2 : R.length ≤ 20000 := by omega
  have HO1' := Lib.hid o4
  clear o4 hst ho4 hb5 hRl hUl hBW3 HSO HB3 HB2 HC0 HC1 HB4 HU
  have hrd : ∀ X, Below w4.heap.size w4 X → X.cell? ⟨w.heap.size + 1, 0, none⟩ = some (.int .i64 o) := fun X hX => by rw [hX.cell (p := ⟨w.heap.size + 1, 0, none⟩) (by show w.heap.size + 1 < _; omega)]; exact HO1'.out
  have HRD := Lib.hid hrd
  clear hrd HO1'
  have HT0 : Hid (([] : List Tri) = (R.take 0).map (trial o)) := Lib.hid rfl
  go_wp2_with fail
  go_loopw [8, 37] (fun v8 i wr => ∃ (k : Nat) (L : List Tri), k ≤ R.length ∧ i = .int .i64 (k : Int) ∧ Hid (L = (R.take k).map (trial o)) ∧ L.length ≤ k ∧ wr.ownsRow w4.heap.size 34 2 v8 L.length (L.flatMap triL) ∧ Below w4.heap.size w4 wr) (fun _ i _ => R.length - (intOf i).toNat)
  case atStart => exact ⟨0, [], by omega, rfl, HT0, Nat.le_refl _, World.ownsRow_nil _ _ _ _, Below.refl _ _⟩
  case round =>
    obtain ⟨k, L, hk, rfl, HL, hLk, hown, hbr⟩ := hrel
    clear HT0
    by_cases hlt : k < R.length
    · have hgk := List.getElem?_eq_getElem hlt
      have HTK := Lib.hid (show (R.take (k + 1)) = R.take k ++ [R[k]] from List.take_succ_eq_append_getElem hlt)
      generalize R[k] = s at hgk HTK
      obtain ⟨b, oo, rfl, e0, e1, e2, e3, e4, e5, e6, e7⟩ := sb_cells (HSR.out.ext hbr) hgk
      have hk0 : (0 : Int) ≤ (k : Int) := Int.natCast_nonneg _
      have hk1 : (k : Int) < (R.length : Int) := by omega
      clear hgk
      go_upto_region 13 with (fail)
      clear e0 e1 e2 e3 e4 e5 e6 e7
      refine wp_box1 fun X hszX hbX hX => ?_
      obtain ⟨g0, g1, g2, g3, g4, g5, g6, g7⟩ := box_sb hX
      have hown1 := ownsRow_ext hown hbX
      have HLT := Lib.hid (fun q9 h9 => Nat.lt_of_lt_of_le (hown.lt q9 h9).2 hbX.size)
      have hb1 := hbr.trans (hbX.mono hbr.size)
      clear hown hX hszX
      obtain ⟨wb, hwb⟩ : ∃ x, decide (0 < s.count) = x := ⟨_, rfl⟩
      have HWB := Lib.hid hwb
      go_upto_region 14 with (fail)
      refine wp_box1r fun Y hszY hbY hY hFY => ?_
      have hown2 := ownsRow_ext hown1 hbY
      have hb2 := hb1.trans (hbY.mono hb1.size)
      replace g2 : Y.cell? ⟨_, 2, none⟩ = some (.int .i64 s.arm) := cell_later' hbY g2
      have h0 : Y.cell? ⟨X.heap.size, 0, none⟩ = some (.int .i64 0) := hY.2 0
      have h1 : Y.cell? ⟨X.heap.size, 1, none⟩ = some (.bool wb) := by have h9 := hY.2 1; simpa [hwb] using h9
      have hz0 := hFY 0
      have hoo : Y.cell? ⟨w.heap.size + 1, 0, none⟩ = some (.int .i64 o) := HRD.out Y hb2
      clear hbX hbr hown1 g0 g1 g3 g4 g5 g6 g7 hszY hbY hY hFY hwb
      by_cases harm : s.arm = o
      · have HTR : Hid (trial o s = ⟨1, wb⟩) := Lib.hid (by unfold trial; rw [if_pos harm, HWB.out])
        go_upto_region 16 with (fail)
        have hown3 := own_skip hown2 (p := ⟨X.heap.size, 0, none⟩) (fun q9 h9 => by have := HLT.out q9 h9; show q9 ≠ X.heap.size; omega) (.int .i64 1)
        have hb3 := (Below.refl Y.heap.size Y)
        have hbZ : Below w4.heap.size w4 (Y.setCell ⟨X.heap.size, 0, none⟩ (.int .i64 1)) := hb2.setCell (p := ⟨X.heap.size, 0, none⟩) hb1.size _
        have j0 : (Y.setCell ⟨X.heap.size, 0, none⟩ (.int .i64 1)).cell? ⟨X.heap.size, 0, none⟩ = some (.int .i64 1) := World.cell?_setCell_same _ _ _ h0
        have j1 : (Y.setCell ⟨X.heap.size, 0, none⟩ (.int .i64 1)).cell? ⟨X.heap.size, 1, none⟩ = some (.bool wb) := (World.cell?_setCell_other _ _ _ _ (by simp)).trans h1
        clear h0 h1 hz0 hown2 hb3 hb2
        generalize Y.setCell ⟨X.heap.size, 0, none⟩ (.int .i64 1) = Z at *
        have hZs := hbZ.size
        skip
        go_wp2_with (at_builtin; refine wpList_append_sl rfl _ _ 27 rfl w4.heap.size 34 Tryz.underlying27 tri_info rfl (by decide) rfl (ownsRow_ext hown3 (ext_alloc _ _)) rfl (Sl.new Z _ _ 1 1 (by omega) (by decide)) rfl (by intro u hu; simp at hu; rcases hu with rfl | rfl <;> rfl) (by unfold maxLen; omega) (by omega) (by simp; omega) ?_; intro v7 w7 hown7 hg7 _)
        have hL : L.flatMap triL ++ [Value.int .i64 1, .bool wb] = (L ++ [trial o s]).flatMap triL := by rw [List.flatMap_append, HTR.out]; simp [triL]
        have hown8 : w7.ownsRow w4.heap.size 34 2 v7 (L ++ [trial o s]).length ((L ++ [trial o s]).flatMap triL) := by rw [← hL, List.length_append]; exact hown7
        have hb8 : Below w4.heap.size w4 w7 := Rw.below_own (hbZ.trans ((ext_alloc Z _).mono hZs)) (ownsRow_ext hown3 (ext_alloc _ _)) hg7 (by simp; omega)
        have HL2 : Hid (L ++ [trial o s] = (R.take (k + 1)).map (trial o)) := Lib.hid (by rw [HTK.out, HL.out]; simp)
        have HLE : Hid ((L ++ [trial o s]).length ≤ k + 1) := Lib.hid (by rw [List.length_append]; simp; omega)
        clear hown7 hg7 hown3 hbZ hL j0 j1
        go_wp2
        go_roundw
        case rel => exact ⟨k + 1, L ++ [trial o s], by omega, by go_num, HL2, HLE.out, hown8, hb8⟩
        case measure => simp [intOf]; omega
      · have HTR : Hid (trial o s = ⟨0, wb⟩) := Lib.hid (by unfold trial; rw [if_neg harm, HWB.out])
        have hown3 := hown2
        have hbZ := hb2
        have j0 := h0
        have j1 := h1
        clear h0 h1 hz0 hown2 hb2
        generalize Y = Z at *
        have hZs := hbZ.size
        skip
        go_wp2_with (at_builtin; refine wpList_append_sl rfl _ _ 27 rfl w4.heap.size 34 Tryz.underlying27 tri_info rfl (by decide) rfl (ownsRow_ext hown3 (ext_alloc _ _)) rfl (Sl.new Z _ _ 1 1 (by omega) (by decide)) rfl (by intro u hu; simp at hu; rcases hu with rfl | rfl <;> rfl) (by unfold maxLen; omega) (by omega) (by simp; omega) ?_; intro v7 w7 hown7 hg7 _)
        have hL : L.flatMap triL ++ [Value.int .i64 0, .bool wb] = (L ++ [trial o s]).flatMap triL := by rw [List.flatMap_append, HTR.out]; simp [triL]
        have hown8 : w7.ownsRow w4.heap.size 34 2 v7 (L ++ [trial o s]).length ((L ++ [trial o s]).flatMap triL) := by rw [← hL, List.length_append]; exact hown7
        have hb8 : Below w4.heap.size w4 w7 := Rw.below_own (hbZ.trans ((ext_alloc Z _).mono hZs)) (ownsRow_ext hown3 (ext_alloc _ _)) hg7 (by simp; omega)
        have HL2 : Hid (L ++ [trial o s] = (R.take (k + 1)).map (trial o)) := Lib.hid (by rw [HTK.out, HL.out]; simp)
        have HLE : Hid ((L ++ [trial o s]).length ≤ k + 1) := Lib.hid (by rw [List.length_append]; simp; omega)
        clear hown7 hg7 hown3 hbZ hL j0 j1
        go_wp2
        go_roundw
        case rel => exact ⟨k + 1, L ++ [trial o s], by omega, by go_num, HL2, HLE.out, hown8, hb8⟩
        case measure => simp [intOf]; omega
    · obtain rfl : k = R.length := by omega
      obtain ⟨a8, c8, rfl, _⟩ := Sl.ofOwn hown
      have HP : Hid (TrPost l z o w (.returned (.tuple #[.slice a8 L.length c8, .int .i64 0])) wr) := Lib.hid ⟨L, a8, c8, by rw [hF.out], Sl.ofOwn hown, by
        unfold TrR
        rw [hF.out, if_pos rfl]
        exact ⟨_, HST.out, by rw [HL.out, List.take_length]⟩, HB5.out.trans (hbr.mono HB5.out.size)⟩
      clear hown hbr HL
      go_wp2
      go_ret2
      exact HP.out
end Tr
end Go.Proofs.YtemenlcigengeaaGreatDoor
