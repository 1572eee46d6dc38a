/- Returned of package event. Printed by gen_reta.py. Plain: tables of tallies. Printed by gen_tal.py. No program stands in it. Plain: the reference's first exposures are the program's; first and last days. No program stands in it. -/
import Derived.Test.YtacchooggifnhaaTw13
import Derived.Test.YtacchooggifnhaaTw05
import Derived.Test.YtacchooggifnhaaTw11
namespace Go.Proofs.Ytacchooggifnhaa
open Go.RowKit
namespace Ex
theorem retS_in {fr to : Int} {s : Sbj} {e : Ev} (h : fr ≤ e.time - s.time ∧ e.time - s.time < to) : retS fr to s e = { s with count := s.count + 1 } := if_pos h
theorem retS_out {fr to : Int} {s : Sbj} {e : Ev} (h : ¬ (fr ≤ e.time - s.time ∧ e.time - s.time < to)) : retS fr to s e = s := if_neg h
theorem retF_same (fr to : Int) : ∀ (L : List Ev) (s : Sbj), (L.foldl (retS fr to) s).key = s.key ∧ (L.foldl (retS fr to) s).time = s.time
  | [], _ => ⟨rfl, rfl⟩
  | e :: L, s => by
    obtain ⟨h1, h2⟩ := retF_same fr to L (retS fr to s e)
    have h3 : (retS fr to s e).key = s.key ∧ (retS fr to s e).time = s.time := by unfold retS; split <;> exact ⟨rfl, rfl⟩
    exact ⟨h1.trans h3.1, h2.trans h3.2⟩
theorem ret_bound (fr to : Int) {s : Sbj} (h : s.count = 0) (L : List Ev) : ∀ k, k ≤ L.length → 0 ≤ ((L.take k).foldl (retS fr to) s).count ∧ ((L.take k).foldl (retS fr to) s).count ≤ k := by
  intro k
  induction k with
  | zero => intro _; rw [List.take_zero]; simp [h]
  | succ k ih =>
    intro hk
    have hg := List.getElem?_eq_getElem (show k < L.length by omega)
    rw [fold_take hg]
    have h1 := ih (by omega)
    generalize (L.take k).foldl (retS fr to) s = y at h1 ⊢
    unfold retS
    split
    · simp only; omega
    · omega
set_option maxRecDepth 100000 in
set_option maxHeartbeats 16000000 in
theorem Returned_at (l : List Ev) (hok : ∀ e ∈ l, e.ok) (x : ByteArray) (hx : x.size ≤ maxLen) (name : ByteArray) (hn : name.size ≤ maxLen) (fr to : Int) (a : Option Addr) (c : Nat) (w : World) (hs : Sl w (.slice a l.length c) l.length (l.flatMap evL)) :
    Calls Try.prog 19 #[.slice a l.length c, .string x, .string name, .int .i64 fr, .int .i64 to] w (RetPost l x name fr to w) := by
  have hl := hs.len_le
  have HOK := Lib.hid hok
  have HS := Lib.hid hs
  have HX := Lib.hid hx
  have HNM := Lib.hid hn
  clear hok hs hx hn
  go_enter Try.func19, Try.ntmps19
  go_wp2_with fail
  refine (checkExposed_at l HOK.out x HX.out a c w HS.out).mono ?_
  rintro e w1 ⟨rfl, hbw1⟩
  obtain ⟨f, hf⟩ : ∃ z, expF l x = z := ⟨_, rfl⟩
  have HFC := Lib.hid hf
  rw [hf]
  clear hf
  obtain ⟨n2, hn2⟩ : ∃ z, nameB name.data.toList = z := ⟨_, rfl⟩
  obtain ⟨m1, hm1⟩ : ∃ z, withinB fr 0 100000000 = z := ⟨_, rfl⟩
  have HFF : Hid (retF l x name fr to = if f ≠ 0 then f else if n2 = false then 5 else if m1 = false then 1 else if to ≤ fr then 8 else if 100000000 < to then 1 else 0) := Lib.hid (by
    rw [← HFC.out, ← hn2, ← hm1]
    unfold retF expF
    by_cases h1 : checkL l ≠ 0
    · rw [if_pos h1, if_pos h1, if_pos h1]
    · rw [if_neg h1, if_neg h1]
      cases nameB x.data.toList <;> simp)
  have HX2 := Lib.hid (fun W9 => (by have h9 := rule_XisName name HNM.out W9; rw [hn2] at h9; exact h9 : Calls Try.prog 39 #[.string name] W9 fun e w' => e = .returned (.bool n2) ∧ W9 = w'))
  have HX3 := Lib.hid (fun W9 => (by have h9 := event_within fr 0 100000000 W9; rw [hm1] at h9; exact h9 : Calls Try.prog 22 #[.int .i64 fr, .int .i64 0, .int .i64 100000000] W9 fun e w' => e = .returned (.bool m1) ∧ W9 = w'))
  have HM1 := Lib.hid hm1
  clear hn2 hm1
  by_cases h0 : f = 0
  · subst h0
    have HF1 : Hid (retF l x name fr to = if n2 = false then 5 else if m1 = false then 1 else if to ≤ fr then 8 else if 100000000 < to then 1 else 0) := Lib.hid (HFF.out.trans rfl)
    clear HFF
    go_wp2_with fail
    refine (HX2.out w1).mono ?_
    rintro e w2 ⟨rfl, hw⟩
    subst hw
    cases n2
    · have HN : Hid (retF l x name fr to = 5) := Lib.hid (HF1.out.trans rfl)
      have HP : Hid (RetPost l x name fr to w (.returned (.tuple #[.slice none 0 0, .int .i64 5])) w1) := Lib.hid (ret_bad HN.out (by decide) hbw1)
      clear HN HF1
      go_wp2
      exact bodyPost_ret (v := .tuple #[.slice none 0 0, .int .i64 5]) (by simp [results, Try.results19, go_sem]) rfl HP.out
    have HF2 : Hid (retF l x name fr to = if m1 = false then 1 else if to ≤ fr then 8 else if 100000000 < to then 1 else 0) := Lib.hid (HF1.out.trans rfl)
    clear HF1 HX2
    go_wp2_with fail
    refine (HX3.out w1).mono ?_
    rintro e w2 ⟨rfl, hw⟩
    subst hw
    cases m1
    · have HN : Hid (retF l x name fr to = 1) := Lib.hid (HF2.out.trans rfl)
      have HP : Hid (RetPost l x name fr to w (.returned (.tuple #[.slice none 0 0, .int .i64 1])) w1) := Lib.hid (ret_bad HN.out (by decide) hbw1)
      clear HN HF2
      go_wp2
      exact bodyPost_ret (v := .tuple #[.slice none 0 0, .int .i64 1]) (by simp [results, Try.results19, go_sem]) rfl HP.out
    have HF3 : Hid (retF l x name fr to = if to ≤ fr then 8 else if 100000000 < to then 1 else 0) := Lib.hid (HF2.out.trans rfl)
    clear HF2 HX3
    have hfr : 0 ≤ fr ∧ fr ≤ 100000000 := of_decide_eq_true HM1.out
    by_cases ht1 : to ≤ fr
    · have HN : Hid (retF l x name fr to = 8) := Lib.hid (HF3.out.trans (if_pos ht1))
      have HP : Hid (RetPost l x name fr to w (.returned (.tuple #[.slice none 0 0, .int .i64 8])) w1) := Lib.hid (ret_bad HN.out (by decide) hbw1)
      have htb : decide (to ≤ fr) = true := decide_eq_true ht1
      clear HN HF3
      go_wp2
      exact bodyPost_ret (v := .tuple #[.slice none 0 0, .int .i64 8]) (by simp [results, Try.results19, go_sem]) rfl HP.out
    have HF4 : Hid (retF l x name fr to = if 100000000 < to then 1 else 0) := Lib.hid (HF3.out.trans (if_neg ht1))
    have htb : decide (to ≤ fr) = false := decide_eq_false ht1
    by_cases ht2 : 100000000 < to
    · have HN : Hid (retF l x name fr to = 1) := Lib.hid (HF4.out.trans (if_pos ht2))
      have HP : Hid (RetPost l x name fr to w (.returned (.tuple #[.slice none 0 0, .int .i64 1])) w1) := Lib.hid (ret_bad HN.out (by decide) hbw1)
      have htb2 : decide (100000000 < to) = true := decide_eq_true ht2
      clear HN HF3 HF4 ht1
      go_wp2
      exact bodyPost_ret (v := .tuple #[.slice none 0 0, .int .i64 1]) (by simp [results, Try.results19, go_sem]) rfl HP.out
    have htb2 : decide (100000000 < to) = false := decide_eq_false ht2
    have HN : Hid (retF l x name fr to = 0) := Lib.hid (HF4.out.trans (if_neg ht2))
    have hto : 1 ≤ to ∧ to ≤ 100000000 := by omega
    have hcl := expF_ok HFC.out
    have hl20 := checkL_len hcl
    have HCL := Lib.hid hcl
    clear HF3 HF4 ht1 ht2 hcl
    go_wp2_with fail
    refine (exposed_at l x a c w1 hl20 (HS.out.ext hbw1)).mono ?_
    rintro e w3 ⟨o, ks, p, q, cS, cq, rfl, ho1, ho2, hR, ⟨hol, _⟩, hb3⟩
    have HR := Lib.hid hR
    have hbw3 := ext_trans hbw1 hb3
    have hoB : w3.ownsRow w.heap.size 32 8 (.slice p o.length cS) o.length (o.flatMap sbL) := own_base' ho1 hbw1.size
    have HAB : Hid (∀ g, (Value.slice p o.length cS).ownBlock = some g → g < w3.heap.size) := Lib.hid (fun g hg => (ho1.lt g hg).2)
    clear ho1 ho2 hR hb3 hbw1
    go_wp2_with fail
    refine (outcomes_at l name a c w3 hl20 (HS.out.ext hbw3)).mono ?_
    rintro e w5 ⟨mb, T, rfl, hO4, hb4⟩
    have hoB5 := ownsRow_ext hoB hb4
    have hbw5 := ext_trans hbw3 hb4
    have HO5 := Lib.hid hO4
    have HTA : Hid (∀ s ∈ o, (0 ≤ s.time ∧ s.time ≤ 4000000000) ∧ s.count = 0) := Lib.hid (fun s hs => by
      refine ⟨?_, (expR_cnt HR.out s hs).2.1⟩
      obtain ⟨e, he, h8, _⟩ := expR_from' HR.out s hs
      rw [h8]
      exact checkE_time (checkL_each HCL.out e he))
    have hlo : o.length ≤ 9223372036854775807 := by omega
    clear hoB hb4 hO4 hbw3
    go_wp2
    go_loopw [52] (fun i wr => ∃ k : Nat, k ≤ o.length ∧ i = .int .i64 k ∧ wr.ownsRow w.heap.size 32 8 (.slice p o.length cS) o.length ((mapTo (retX fr to name l) o k).flatMap sbL) ∧ w5.grownBy wr (Value.slice p o.length cS).ownBlock ∧ Below w.heap.size w wr) (fun i _ => o.length - (intOf i).toNat)
    case atStart => exact ⟨0, by omega, rfl, by rw [mapTo_zero]; exact hoB5, World.grownBy.refl _ _, hbw5⟩
    case round =>
      clear hoB5 hbw5
      obtain ⟨k, hk, rfl, hoU, hgU, hbU⟩ := hrel
      by_cases hlt : k < o.length
      · have hgk := List.getElem?_eq_getElem hlt
        generalize o[k] = s at hgk
        obtain ⟨⟨hst0, hst1⟩, hcn0⟩ := HTA.out s (List.mem_of_getElem? hgk)
        obtain ⟨g, cap, hgv, hgB⟩ := own_form hoU (by omega)
        obtain rfl : p = some ⟨g, 0, none⟩ := by injection hgv
        obtain rfl : cS = cap := by injection hgv
        clear hgv
        have HGA := Lib.hid (HAB.out g rfl)
        have hgU' : w5.grownBy wr (some g) := hgU
        have hUl : k < (mapTo (retX fr to name l) o k).length := by rw [mapTo_len]; exact hlt
        have hUs := mapTo_same (f := retX fr to name l) hgk
        have hUf := mapTo_step (f := retX fr to name l) hgk
        obtain ⟨U, hU⟩ : ∃ z, mapTo (retX fr to name l) o k = z := ⟨_, rfl⟩
        rw [hU] at hoU hUl hUs hUf
        rw [← hUs] at hoU
        have HUF := Lib.hid hUf
        have hor : SR wr w.heap.size g cS o.length (U.set k s) := hoU
        obtain ⟨⟨c0, c1, c3, c4, c5, c6⟩, -, -⟩ := hor.cells hUl
        have hk0 : (0 : Int) ≤ (k : Int) := Int.natCast_nonneg _
        have hk1 : (k : Int) < (o.length : Int) := by omega
        have hOr := HO5.out.grown hgU' (fun g' hg' => by cases hg'; exact HGA.out)
        obtain ⟨aK, cK, hvK, hsK⟩ := hOr.sl s.key
        have hmr := hOr.map
        have hKl := hsK.len_le
        have HSK := Lib.hid hsK
        have HKB : Hid (∀ b o, aK = some ⟨b, o, none⟩ → g ≠ b) := Lib.hid (fun b o e9 => by
          have h9 := ((hOr.row s.key).1.lt b (by rw [hvK, e9]; rfl)).1
          have h8 := HGA.out
          omega)
        obtain ⟨es, hes⟩ : ∃ z, outsK name l s.key = z := ⟨_, rfl⟩
        have HES := Lib.hid hes
        have hesl : es.length ≤ 20000 := by rw [← hes]; exact Nat.le_trans (outsK_len _ _ _) hl20
        rw [hes] at hvK HSK hKl
        have HVK := Lib.hid hvK
        have HOK2 : Hid (∀ e ∈ es, 0 ≤ e.time ∧ e.time ≤ 4000000000) := Lib.hid (fun e he => (outs_ok HCL.out e (by rw [HES.out]; exact he)).1)
        clear hU hUs hUf hoU hgU hsK hes hvK hgk hOr
        go_wp2_with (at_lookup; refine wpList_rowT rfl _ _ 70 rfl str_ok Try.underlying70 (zero_rows _) rfl hmr s.key rfl (.slice aK es.length cK) HVK.out ?_)
        clear c0 c1 c3 c4 c5 c6 hmr
        obtain ⟨w6, rfl⟩ : ∃ W, W = wr := ⟨wr, rfl⟩
        go_loopw [65] (fun i wq => ∃ (j : Nat) (y : Sbj), j ≤ es.length ∧ i = .int .i64 j ∧ Hid ((es.take j).foldl (retS fr to) s = y) ∧ SR wq w.heap.size g cS o.length (U.set k y) ∧ w6.grownBy wq (some g) ∧ Below w.heap.size w wq) (fun i _ => es.length - (intOf i).toNat)
        case atStart => exact ⟨0, s, by omega, rfl, Lib.hid rfl, hor, World.grownBy.refl _ _, hbU⟩
        case round =>
          clear hor hbU
          obtain ⟨j, y, hj, rfl, HY, hoQ, hgQ, hbQ⟩ := hrel
          have hyt : y.time = s.time := by rw [← HY.out]; exact (retF_same fr to (es.take j) s).2
          have hyc : 0 ≤ y.count ∧ y.count ≤ j := by rw [← HY.out]; exact ret_bound fr to hcn0 es j hj
          by_cases hlt2 : j < es.length
          · have hge := List.getElem?_eq_getElem hlt2
            generalize es[j] = e at hge
            obtain ⟨het0, het1⟩ := HOK2.out e (List.mem_of_getElem? hge)
            have HYN := Lib.hid (fold_take (f := retS fr to) hge s)
            have hSe := sl_kept HSK.out hgQ (fun b o e9 h => HKB.out b o e9 (by injection h))
            obtain ⟨b', o', rfl, e0, e1, e2, e3, e4, e5, e6, e7⟩ := ev_cells hSe hge
            have hj0 : (0 : Int) ≤ (j : Int) := Int.natCast_nonneg _
            have hj1 : (j : Int) < (es.length : Int) := by omega
            clear hge hSe
            go_upto_region 21 with (fail)
            clear e0 e1 e2 e3 e4 e5 e6 e7
            refine wp_box1 fun X hszX hbX hX => ?_
            clear hszX
            have hoX : SR X w.heap.size g cS o.length (U.set k y) := ownsRow_ext hoQ hbX
            have hgX := grown_below hgQ hbX
            have hbX9 := hbQ.trans (hbX.mono hbQ.size)
            have hyc2 : 0 ≤ y.count ∧ y.count ≤ 20000 := by omega
            clear hoQ hgQ hbQ hbX hyc
            obtain ⟨q9, hq9⟩ : ∃ z, withinB (e.time - s.time) fr (to - 1) = z := ⟨_, rfl⟩
            have HQ9 := Lib.hid hq9
            have hwr1 : IntKind.i64.wrap (e.time - s.time) = e.time - s.time := by rw [IntKind.wrap_i64]; omega
            have hwr2 : IntKind.i64.wrap (to - 1) = to - 1 := by rw [IntKind.wrap_i64]; omega
            have HWN := Lib.hid (fun W9 => (by have h9 := event_within (e.time - s.time) fr (to - 1) W9; rw [hq9] at h9; rw [hwr1, hwr2]; exact h9 : Calls Try.prog 22 #[.int .i64 (IntKind.i64.wrap (e.time - s.time)), .int .i64 fr, .int .i64 (IntKind.i64.wrap (to - 1))] W9 fun e w' => e = .returned (.bool q9) ∧ W9 = w'))
            clear hwr1 hwr2
            clear hq9
            obtain ⟨⟨c0, c1, c3, c4, c5, c6⟩, -, -⟩ := hoX.cells hUl
            rw [hyt] at c1
            obtain ⟨g0, g1, g2, g3, g4, g5, g6, g7⟩ := box_ev hX
            go_wp2_with fail
            go_region_with (go_at_call 22; refine (HWN.out _).mono ?_; rintro e9 w9 ⟨rfl, hw9⟩; subst hw9)
            all_goals
              clear c0 c1 c3 c4 c5 c6 g0 g1 g2 g3 g4 g5 g6 g7
              have hoD : SR X.drew w.heap.size g cS o.length (U.set k y) := hoX
              have hgD : w6.grownBy X.drew (some g) := ⟨hgX.os, hgX.tape, hgX.output, hgX.size, hgX.block⟩
              have hbD := hbX9.drew
              clear hoX hgX hbX9 hX
              generalize X.drew = Y at hoD hgD hbD ⊢
              cases q9
              · have HN2 : Hid ((es.take (j + 1)).foldl (retS fr to) s = y) := Lib.hid (by
                  rw [HYN.out, HY.out]
                  have h9 := of_decide_eq_false HQ9.out
                  exact retS_out (by rw [hyt]; omega))
                clear HWN HQ9
                go_wp2
                exact ⟨⟨j + 1, y, by omega, by go_num, HN2, hoD, hgD, hbD⟩, by simp [intOf]; omega⟩
              · have HN2 : Hid ((es.take (j + 1)).foldl (retS fr to) s = { y with count := y.count + 1 }) := Lib.hid (by
                  rw [HYN.out, HY.out]
                  have h9 := of_decide_eq_true HQ9.out
                  exact retS_in (by rw [hyt]; omega))
                obtain ⟨⟨c0, c1, c3, c4, c5, c6⟩, ⟨f3, f4, f5, f6⟩, -, -⟩ := hoD.cells hUl
                have hoZ := hoD.put hUl (s' := { y with count := y.count + 1 }) 3 (.int .i64 (y.count + 1)) (by decide) rfl
                have hgZ := grown_set hgD (k * 8 + 3) (.int .i64 (y.count + 1))
                have hbZ := hbD.setCell (p := ⟨g, k * 8 + 3, none⟩) hgB (.int .i64 (y.count + 1))
                clear HWN HQ9
                go_upto_region 23 with (fail)
                clear c0 c1 c3 c4 c5 c6 f3 f4 f5 f6 hoD hgD hbD
                generalize Y.setCell ⟨g, k * 8 + 3, none⟩ (.int .i64 (y.count + 1)) = Z at hoZ hgZ hbZ ⊢
                go_wp2
                exact ⟨⟨j + 1, { y with count := y.count + 1 }, by omega, by go_num, HN2, hoZ, hgZ, hbZ⟩, by simp [intOf]; omega⟩
          · have HNE : Hid (retX fr to name l s = y) := Lib.hid (by
              unfold retX
              rw [HES.out, ← HY.out, List.take_of_length_le (by omega)])
            have hoN0 := hoQ
            rw [← HNE.out, HUF.out] at hoN0
            have hgN0 := grown_trans hgU' hgQ
            have hoN : wr.ownsRow w.heap.size 32 8 (.slice (some ⟨g, 0, none⟩) o.length cS) o.length ((mapTo (retX fr to name l) o (k + 1)).flatMap sbL) := hoN0
            have hgN : w5.grownBy wr (Value.slice (some ⟨g, 0, none⟩) o.length cS).ownBlock := hgN0
            clear hoN0 hgN0 hoQ hgQ hyc hyt
            go_wp2
            exact ⟨⟨k + 1, by omega, by go_num, hoN, hgN, hbQ⟩, by simp [intOf]; omega⟩
      · have hall : mapTo (retX fr to name l) o k = o.map (retX fr to name l) := mapTo_all (by omega)
        rw [hall] at hoU
        have HP : Hid (RetPost l x name fr to w (.returned (.tuple #[.slice p o.length cS, .int .i64 0])) wr) := Lib.hid ⟨o.map (retX fr to name l), p, cS, by rw [HN.out, List.length_map], by rw [List.length_map]; exact Sl.ofOwn hoU, by rw [if_pos HN.out]; exact ⟨o, ks, HR.out, rfl⟩, hbU⟩
        clear hoU hgU hbU hall
        go_wp2
        exact bodyPost_ret (v := .tuple #[.slice p o.length cS, .int .i64 0]) (by simp [results, Try.results19, go_sem]) rfl HP.out
  · have hne : (f != 0) = true := by simpa using h0
    have HN : Hid (retF l x name fr to = f) := Lib.hid (HFF.out.trans (if_pos h0))
    have HP : Hid (RetPost l x name fr to w (.returned (.tuple #[.slice none 0 0, .int .i64 f])) w1) := Lib.hid (ret_bad HN.out h0 hbw1)
    clear h0 HFF
    go_wp2
    exact bodyPost_ret (v := .tuple #[.slice none 0 0, .int .i64 f]) (by simp [results, Try.results19, go_sem]) rfl HP.out
end Ex
end Go.Proofs.Ytacchooggifnhaa
namespace Go.Proofs.Ytacchooggifnhaa
namespace Ex
def cntB (day d a : Int) (s : Sbj) : Bool := decide (s.time / day = d) && decide (s.arm = a)
def rowT (K : List Sbj) (day d : Int) (arms : Nat) : List Int := (List.range arms).map (fun (j : Nat) => ((K.countP (cntB day d (j : Int)) : Nat) : Int))
def tabT (K : List Sbj) (day lo : Int) (n arms : Nat) : List (List Int) := (List.range n).map (fun (i : Nat) => rowT K day (lo + (i : Int)) arms)
theorem rowT_len (K : List Sbj) (day d : Int) (arms : Nat) : (rowT K day d arms).length = arms := by simp [rowT]
theorem rowT_get {K : List Sbj} {day d : Int} {arms j : Nat} (h : j < arms) : (rowT K day d arms)[j]? = some ((K.countP (cntB day d (j : Int)) : Nat) : Int) := by
  simp [rowT, h]
theorem rowT_nil (day d : Int) (arms : Nat) : rowT [] day d arms = List.replicate arms 0 := by
  apply List.ext_getElem?
  intro j
  by_cases h : j < arms
  · rw [rowT_get h]; simp [h]
  · rw [List.getElem?_eq_none (by rw [rowT_len]; omega), List.getElem?_eq_none (by simp; omega)]
theorem rowT_other {K : List Sbj} {s : Sbj} {day d : Int} {arms : Nat} (h : s.time / day ≠ d) : rowT (K ++ [s]) day d arms = rowT K day d arms := by
  unfold rowT
  refine List.map_congr_left fun j _ => ?_
  rw [List.countP_append]
  simp [cntB, h]
/-! ### what the table sums up to -/
theorem sum_ind (f : Nat → Int) (a : Nat) (x : Int) : ∀ n, ((List.range n).map (fun j => f j + if j = a then x else 0)).sum = ((List.range n).map f).sum + if a < n then x else 0
  | 0 => by simp
  | n + 1 => by
    rw [List.range_succ, List.map_append, List.map_append, List.sum_append, List.sum_append, sum_ind f a x n]
    simp only [List.map_cons, List.map_nil, List.sum_cons, List.sum_nil]
    by_cases h1 : a < n
    · rw [if_pos h1, if_neg (by omega), if_pos (by omega)]; omega
    · by_cases h2 : n = a
      · rw [if_neg h1, if_pos h2, if_pos (by omega)]; omega
      · rw [if_neg h1, if_neg h2, if_neg (by omega)]; omega
theorem zero_sum : ∀ n, ((List.range n).map (fun _ => (0 : Int))).sum = 0
  | 0 => rfl
  | n + 1 => by rw [List.range_succ, List.map_append, List.sum_append, zero_sum n]; rfl
theorem row_sum {K : List Sbj} {s : Sbj} {day d : Int} {arms : Nat} (ha : 0 ≤ s.arm ∧ s.arm < arms) : (rowT (K ++ [s]) day d arms).sum = (rowT K day d arms).sum + if s.time / day = d then 1 else 0 := by
  by_cases h : s.time / day = d
  · have e1 : rowT (K ++ [s]) day d arms = (List.range arms).map (fun (j : Nat) => ((K.countP (cntB day d (j : Int)) : Nat) : Int) + if j = s.arm.toNat then 1 else 0) := by
      unfold rowT
      refine List.map_congr_left fun j _ => ?_
      rw [List.countP_append]
      by_cases e : j = s.arm.toNat
      · have : s.arm = (j : Int) := by omega
        simp [cntB, h, this]
      · have : ¬ s.arm = (j : Int) := by omega
        simp [cntB, this, e]
    rw [e1, sum_ind, if_pos (by omega), if_pos h]; rfl
  · rw [rowT_other h, if_neg h]; omega
theorem tab_sum_step {K : List Sbj} {s : Sbj} {day lo : Int} {n arms : Nat} (ha : 0 ≤ s.arm ∧ s.arm < arms) (hd : lo ≤ s.time / day ∧ s.time / day < lo + (n : Int)) :
    ((tabT (K ++ [s]) day lo n arms).map List.sum).sum = ((tabT K day lo n arms).map List.sum).sum + 1 := by
  have e1 : (tabT (K ++ [s]) day lo n arms).map List.sum = (List.range n).map (fun (i : Nat) => (rowT K day (lo + (i : Int)) arms).sum + if i = (s.time / day - lo).toNat then 1 else 0) := by
    unfold tabT
    rw [List.map_map]
    refine List.map_congr_left fun i _ => ?_
    show (rowT (K ++ [s]) day (lo + (i : Int)) arms).sum = _
    rw [row_sum ha]
    by_cases e : i = (s.time / day - lo).toNat
    · rw [if_pos e, if_pos (by omega)]
    · rw [if_neg e, if_neg (by omega)]
  rw [e1, sum_ind, if_pos (by omega)]
  unfold tabT
  rw [List.map_map]; rfl
theorem tab_sum {day lo : Int} {n arms : Nat} : ∀ K : List Sbj, (∀ s ∈ K, (0 ≤ s.arm ∧ s.arm < arms) ∧ lo ≤ s.time / day ∧ s.time / day < lo + (n : Int)) → ((tabT K day lo n arms).map List.sum).sum = (K.length : Int) := by
  intro K
  have key : ∀ k, k ≤ K.length → (∀ s ∈ K, (0 ≤ s.arm ∧ s.arm < arms) ∧ lo ≤ s.time / day ∧ s.time / day < lo + (n : Int)) → ((tabT (K.take k) day lo n arms).map List.sum).sum = (k : Int) := by
    intro k
    induction k with
    | zero =>
      intro _ _
      rw [List.take_zero]
      have : (tabT [] day lo n arms).map List.sum = (List.range n).map (fun _ => (0 : Int)) := by
        unfold tabT
        rw [List.map_map]
        refine List.map_congr_left fun i _ => ?_
        show (rowT [] day (lo + (i : Int)) arms).sum = 0
        rw [rowT_nil]; simp
      rw [this, zero_sum]; rfl
    | succ k ih =>
      intro hk h
      have hg := h K[k] (List.getElem_mem _)
      rw [List.take_succ_eq_append_getElem (by omega), tab_sum_step hg.1 hg.2, ih (by omega) h]; omega
  intro h
  have := key K.length (Nat.le_refl _) h
  rwa [List.take_length] at this
/-! ### what Tallies answers -/
/-- the first and the last day of some subjects -/
def LoHi (K : List Sbj) (day : Int) (lo hi : Nat) : Prop := (∃ m ∈ K, m.time / day = (lo : Int)) ∧ (∃ m ∈ K, m.time / day = (hi : Int)) ∧ ∀ s ∈ K, (lo : Int) ≤ s.time / day ∧ s.time / day ≤ (hi : Int)
theorem LoHi.unique {K : List Sbj} {day : Int} {lo hi lo' hi' : Nat} (h : LoHi K day lo hi) (h' : LoHi K day lo' hi') : lo = lo' ∧ hi = hi' := by
  obtain ⟨⟨m, hm, e1⟩, ⟨q, hq, e2⟩, h3⟩ := h
  obtain ⟨⟨m', hm', e1'⟩, ⟨q', hq', e2'⟩, h3'⟩ := h'
  have a1 := h3 m' hm'; have a2 := h3' m hm; have a3 := h3 q' hq'; have a4 := h3' q hq
  omega
theorem LoHi.le {K : List Sbj} {day : Int} {lo hi : Nat} (h : LoHi K day lo hi) : lo ≤ hi := by
  obtain ⟨⟨m, hm, e1⟩, _, h3⟩ := h
  have := h3 m hm; omega
/-- day and row of each tally -/
def talX (K : List Sbj) (day : Int) (lo n arms : Nat) : List (Int × List Int) := (List.range n).map (fun (i : Nat) => ((lo : Int) + (i : Int), rowT K day ((lo : Int) + (i : Int)) arms))
theorem talX_rows (K : List Sbj) (day : Int) (lo n arms : Nat) : (talX K day lo n arms).map (·.2) = tabT K day (lo : Int) n arms := by simp [talX, tabT]
/-- the table of subjects, and its fault -/
def TalR (K : List Sbj) (day : Int) (arms : Nat) (f : Int) (rows : List (Int × List Int)) : Prop :=
  (K = [] ∧ f = 0 ∧ rows = []) ∨ (K ≠ [] ∧ ∃ lo hi : Nat, LoHi K day lo hi ∧ ((20000 < hi - lo + 1 ∧ f = 2 ∧ rows = []) ∨ (hi - lo + 1 ≤ 20000 ∧ f = 0 ∧ rows = talX K day lo (hi - lo + 1) arms)))
theorem TalR.unique {K : List Sbj} {day : Int} {arms : Nat} {f f' : Int} {rows rows' : List (Int × List Int)} (h : TalR K day arms f rows) (h' : TalR K day arms f' rows') : f = f' ∧ rows = rows' := by
  rcases h with ⟨h1, h2, h3⟩ | ⟨h1, lo, hi, h2, h3⟩
  · rcases h' with ⟨h1', h2', h3'⟩ | ⟨h1', _⟩
    · exact ⟨by rw [h2, h2'], by rw [h3, h3']⟩
    · exact absurd h1 h1'
  · rcases h' with ⟨h1', h2', h3'⟩ | ⟨h1', lo', hi', h2', h3'⟩
    · exact absurd h1' h1
    · obtain ⟨rfl, rfl⟩ := h2.unique h2'
      rcases h3 with ⟨a1, a2, a3⟩ | ⟨a1, a2, a3⟩ <;> rcases h3' with ⟨b1, b2, b3⟩ | ⟨b1, b2, b3⟩
      · exact ⟨by rw [a2, b2], by rw [a3, b3]⟩
      · omega
      · omega
      · exact ⟨by rw [a2, b2], by rw [a3, b3]⟩
/-- the table has all subjects -/
theorem TalR.sum {K : List Sbj} {day : Int} {arms : Nat} {rows : List (Int × List Int)} (h : TalR K day arms 0 rows) (ha : ∀ s ∈ K, 0 ≤ s.arm ∧ s.arm < arms) : (rows.map (fun r => r.2.sum)).sum = (K.length : Int) := by
  rcases h with ⟨h1, h2, h3⟩ | ⟨h1, lo, hi, h2, ⟨h3, h4, _⟩ | ⟨h3, h4, h5⟩⟩
  · rw [h1, h3]; rfl
  · cases h4
  · subst h5
    have := tab_sum (day := day) (lo := (lo : Int)) (n := hi - lo + 1) (arms := arms) K (fun s hs => ⟨ha s hs, by have := h2.2.2 s hs; have := h2.le; omega⟩)
    rw [← this, ← talX_rows, List.map_map]; rfl
end Ex
end Go.Proofs.Ytacchooggifnhaa
namespace Go.Proofs.Ytacchooggifnhaa
namespace Ex
theorem scan_prs : ∀ (p : Option Ev) (l : List Ev), scanFrom p l = 0 → l.Pairwise (fun a b => ordE a b < 0) ∧ (∀ q, p = some q → ∀ x ∈ l, ordE q x < 0)
  | _, [], _ => ⟨List.Pairwise.nil, fun _ _ x hx => by cases hx⟩
  | p, e :: r, h => by
    unfold scanFrom at h
    by_cases hx : checkE e = 0
    · rw [if_neg (by simp [hx])] at h
      have aux : ∀ (b : Bool) (y : Int), (if b = true then (8 : Int) else y) = 0 → y = 0 := fun b y hy => by cases b <;> simp_all
      have h2 : scanFrom (some e) r = 0 := aux _ _ h
      obtain ⟨i1, i2⟩ := scan_prs (some e) r h2
      refine ⟨List.Pairwise.cons (i2 e rfl) i1, fun q hq x hxm => ?_⟩
      subst hq
      have hqe : ordE q e < 0 := by
        by_cases h3 : 0 ≤ ordE q e
        · exfalso; simp [h3] at h
        · omega
      rcases List.mem_cons.1 hxm with rfl | hxm
      · exact hqe
      · exact ordE_lt_trans hqe (i2 e rfl x hxm)
    · rw [if_pos hx] at h; omega
theorem checkL_asc {l : List Ev} (h : checkL l = 0) : l.Pairwise (fun a b => ordE a b < 0) := by
  unfold checkL at h
  by_cases h1 : 20000 < l.length
  · rw [if_pos h1] at h; cases h
  · rw [if_neg h1] at h
    by_cases h2 : scanFrom none l = 0
    · exact (scan_prs none l h2).1
    · rw [if_pos h2] at h; exact absurd h h2
theorem asc_before {l : List Ev} (h : l.Pairwise (fun a b => ordE a b < 0)) {k : Nat} {e o : Ev} (he : l[k]? = some e) (ho : o ∈ l.take k) : ordE o e < 0 := by
  obtain ⟨hk, rfl⟩ := List.getElem?_eq_some_iff.1 he
  obtain ⟨i, hi, rfl⟩ := List.getElem_of_mem ho
  rw [List.length_take] at hi
  rw [List.getElem_take]
  exact List.pairwise_iff_getElem.1 h i k (by omega) hk (by omega)
theorem look_first {x : ByteArray} {L : List Ev} {key : ByteArray} {o : Ev} {F : Fst} {M : Mix} (hs : expX x L = (F, M)) (h : look F key = some o) : o ∈ L := by
  have h1 := first_ok x L
  rw [hs] at h1
  exact (h1.2 _ (look_some_mem h)).2.1
/-- does an exposure come ahead of another one? -/
def soonB (a b : Ev) : Bool := decide (a.time < b.time) || decide (a.time = b.time) && decide (ordE a b < 0)
theorem soon_is {a b : Ev} (h : ordE b a < 0) : soonB a b = decide (a.time < b.time) := by
  have h1 := ordE_anti b a
  unfold soonB
  rw [decide_eq_false (show ¬ ordE a b < 0 by omega)]
  simp
theorem keys_new {F : Fst} {k : ByteArray} {e : Ev} (h : look F k = none) : keysOf (putL F k e) = keysOf F ++ [k] := by
  unfold keysOf
  rw [putL_keys, if_neg (look_none_keys.1 h)]
theorem keys_old {F : Fst} {k : ByteArray} {e o : Ev} (h : look F k = some o) : keysOf (putL F k e) = keysOf F := by
  unfold keysOf
  rw [putL_keys, if_pos (List.mem_map.2 ⟨_, look_some_mem h, rfl⟩)]
theorem keys_len (F : Fst) : (keysOf F).length = F.length := by unfold keysOf; rw [List.length_map]
/-- what the reference has of the keys so far -/
def outK (F : Fst) (M : Mix) (ks : List ByteArray) : List Sbj := (ks.filter (fun k => !mixB M k)).map (subjK F)
def mixK (M : Mix) (ks : List ByteArray) : List ByteArray := ks.filter (fun k => mixB M k)
theorem outK_yes {F : Fst} {M : Mix} {ks : List ByteArray} {i : Nat} {k : ByteArray} (hi : ks[i]? = some k) (h : mixB M k = false) : outK F M (ks.take (i + 1)) = outK F M (ks.take i) ++ [subjK F k] ∧ mixK M (ks.take (i + 1)) = mixK M (ks.take i) := by
  obtain ⟨hk, rfl⟩ := List.getElem?_eq_some_iff.1 hi
  unfold outK mixK
  rw [List.take_succ_eq_append_getElem hk, List.filter_append, List.filter_append]
  simp [h]
theorem outK_no {F : Fst} {M : Mix} {ks : List ByteArray} {i : Nat} {k : ByteArray} (hi : ks[i]? = some k) (h : mixB M k = true) : outK F M (ks.take (i + 1)) = outK F M (ks.take i) ∧ mixK M (ks.take (i + 1)) = mixK M (ks.take i) ++ [k] := by
  obtain ⟨hk, rfl⟩ := List.getElem?_eq_some_iff.1 hi
  unfold outK mixK
  rw [List.take_succ_eq_append_getElem hk, List.filter_append, List.filter_append]
  simp [h]
theorem outK_le (F : Fst) (M : Mix) (ks : List ByteArray) (i : Nat) : (outK F M (ks.take i)).length ≤ i ∧ (mixK M (ks.take i)).length ≤ i := by
  unfold outK mixK
  rw [List.length_map]
  have h1 := List.length_filter_le (fun k => !mixB M k) (ks.take i)
  have h2 := List.length_filter_le (fun k => mixB M k) (ks.take i)
  rw [List.length_take] at h1 h2
  omega
theorem first_look {F : Fst} {k : ByteArray} (h : k ∈ keysOf F) : ∃ e, look F k = some e ∧ subjK F k = subjOf (k, e) := by
  cases hl : look F k with
  | none => exact absurd h (look_none_keys.1 hl)
  | some e => exact ⟨e, rfl, by unfold subjK firstOf; rw [hl]; rfl⟩
/-! ### first and last days -/
end Ex
end Go.Proofs.Ytacchooggifnhaa
