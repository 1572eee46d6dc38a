/- Subjects of package event. Printed by gen_suba.py. -/
import Derived.Test.YtacchooggifnhaaDoorCl18
namespace Go.Proofs.YtacchooggifnhaaDoor
open Go.RowKit
namespace Ex
theorem box_set {w : World} {b g : Nat} {A : Array Value} (h : Box w b A) (hne : g ≠ b) (i : Nat) (x : Value) : Box (w.setCell ⟨g, i, none⟩ x) b A := by
  refine ⟨by simpa [World.setCell] using h.1, fun j => ?_⟩
  rw [← h.2 j]
  simp only [World.cell?, World.setCell, Array.getElem?_modify]
  rw [if_neg hne]
/-- the row of a key's outcomes, as a slice that reads -/
theorem OutM.sl {w : World} {base b : Nat} {T : RowT} {name : ByteArray} {l : List Ev} (h : OutM w base b T name l) (key : ByteArray) : ∃ (a : Option Addr) (c : Nat), ((look T key).map rowV).getD (.slice none 0 0) = .slice a (outsK name l key).length c ∧ Sl w (.slice a (outsK name l key).length c) (outsK name l key).length ((outsK name l key).flatMap evL) := by
  have h1 := (h.row key).1
  obtain ⟨a, c, hv⟩ : ∃ a c, ((look T key).map rowV).getD (.slice none 0 0) = .slice a (outsK name l key).length c := by
    rcases h1.2 with ⟨e, h9⟩ | ⟨g, cap, cur, e, _⟩
    · exact ⟨none, 0, by rw [e, h9]⟩
    · exact ⟨_, _, e⟩
  exact ⟨a, c, hv, Sl.ofOwn (hv ▸ h1)⟩
set_option maxRecDepth 100000 in
set_option maxHeartbeats 16000000 in
theorem Subjects_at (l : List Ev) (hok : ∀ e ∈ l, e.ok) (L : List ByteArray) (hsz : ∀ s ∈ L, s.size ≤ maxLen) (x : ByteArray) (hx : x.size ≤ maxLen) (name : ByteArray) (hn : name.size ≤ maxLen) (len bf : Int) (a a2 : Option Addr) (c c2 : Nat) (w : World) (hs : Sl w (.slice a l.length c) l.length (l.flatMap evL)) (hs2 : Sl w (.slice a2 L.length c2) L.length (L.map Value.string)) :
    Calls Tryd.prog 5 #[.slice a l.length c, .slice a2 L.length c2, .string x, .agg #[.string name, .int .i64 len, .int .i64 bf]] w (SubPost l L x name len bf w) := by
  have hl := hs.len_le
  have HOK := Lib.hid hok
  have HS := Lib.hid hs
  have HS2 := Lib.hid hs2
  have HSZ := Lib.hid hsz
  have HX := Lib.hid hx
  have HNM := Lib.hid hn
  clear hok hs hs2 hsz hx hn
  go_enter Tryd.func5, Tryd.ntmps5
  go_upto_region 1 with (fail)
  refine wp_box1 fun W0 hsz0 hb0 hA0 => ?_
  clear hsz0
  obtain ⟨wb, hwb⟩ : ∃ z, w.heap.size = z := ⟨_, rfl⟩
  rw [hwb] at hA0 ⊢
  have HWB := Lib.hid hwb
  clear hwb
  go_wp2_with fail
  refine (event_CheckLog l HOK.out a c W0 (HS.out.ext hb0)).mono ?_
  rintro e w1 ⟨rfl, hb1⟩
  have hbw1 := ext_trans hb0 hb1
  have hA1 := hA0.ext hb1
  obtain ⟨f, hf⟩ : ∃ z, checkL l = z := ⟨_, rfl⟩
  have HF : Hid (subF l L x name len bf = if f ≠ 0 then f else if checkSh L ≠ 0 then checkSh L else if nameB x.data.toList = false ∨ nameB name.data.toList = false then 5 else if withinB len 1 100000000 = false ∨ withinB bf 0 100000000 = false then 1 else 0) := Lib.hid (by rw [← hf]; rfl)
  have HFC := Lib.hid hf
  rw [hf]
  clear hf hb0 hb1 hA0
  by_cases h0 : f = 0
  · subst h0
    have HF1 : Hid (subF l L x name len bf = if checkSh L ≠ 0 then checkSh L else if nameB x.data.toList = false ∨ nameB name.data.toList = false then 5 else if withinB len 1 100000000 = false ∨ withinB bf 0 100000000 = false then 1 else 0) := Lib.hid (HF.out.trans rfl)
    clear HF
    go_wp2_with fail
    refine (event_checkShards L HSZ.out a2 c2 _ (HS2.out.ext hbw1)).mono ?_
    rintro e w2 ⟨rfl, hw⟩
    subst hw
    obtain ⟨f2, hf2⟩ : ∃ z, checkSh L = z := ⟨_, rfl⟩
    have HF2 := Lib.hid hf2
    rw [hf2] at HF1 ⊢
    clear hf2
    by_cases h2 : f2 = 0
    · subst h2
      have HF3 : Hid (subF l L x name len bf = if nameB x.data.toList = false ∨ nameB name.data.toList = false then 5 else if withinB len 1 100000000 = false ∨ withinB bf 0 100000000 = false then 1 else 0) := Lib.hid (HF1.out.trans rfl)
      clear HF1
      obtain ⟨n1, hn1⟩ : ∃ z, nameB x.data.toList = z := ⟨_, rfl⟩
      obtain ⟨n2, hn2⟩ : ∃ z, nameB name.data.toList = z := ⟨_, rfl⟩
      have HX1 := Lib.hid (fun W9 => (by have h9 := rule_XisName x HX.out W9; rw [hn1] at h9; exact h9 : Calls Tryd.prog 13 #[.string x] W9 fun e w' => e = .returned (.bool n1) ∧ W9 = w'))
      have HX2 := Lib.hid (fun W9 => (by have h9 := rule_XisName name HNM.out W9; rw [hn2] at h9; exact h9 : Calls Tryd.prog 13 #[.string name] W9 fun e w' => e = .returned (.bool n2) ∧ W9 = w'))
      rw [hn1, hn2] at HF3
      clear hn1 hn2
      have ca0 : w1.cell? ⟨wb, 0, none⟩ = some (.string name) := hA1.2 0
      have ca1 : w1.cell? ⟨wb, 1, none⟩ = some (.int .i64 len) := hA1.2 1
      have ca2 : w1.cell? ⟨wb, 2, none⟩ = some (.int .i64 bf) := hA1.2 2
      go_wp2_with fail
      refine (HX1.out w1).mono ?_
      rintro e w2 ⟨rfl, hw⟩
      subst hw
      cases n1
      · have HN : Hid (subF l L x name len bf = 5) := Lib.hid (HF3.out.trans rfl)
        have HP : Hid (SubPost l L x name len bf w (.returned (.tuple #[.slice none 0 0, .int .i64 5])) w1) := Lib.hid (sub_bad HN.out (by decide) hbw1)
        clear hA1 HN HF3
        go_wp2
        exact bodyPost_ret (v := .tuple #[.slice none 0 0, .int .i64 5]) (by simp [results, Tryd.results5, go_sem]) rfl HP.out
      go_wp2_with fail
      refine (HX2.out w1).mono ?_
      rintro e w2 ⟨rfl, hw⟩
      subst hw
      cases n2
      · have HN : Hid (subF l L x name len bf = 5) := Lib.hid (HF3.out.trans rfl)
        have HP : Hid (SubPost l L x name len bf w (.returned (.tuple #[.slice none 0 0, .int .i64 5])) w1) := Lib.hid (sub_bad HN.out (by decide) hbw1)
        clear hA1 HN HF3
        go_wp2
        exact bodyPost_ret (v := .tuple #[.slice none 0 0, .int .i64 5]) (by simp [results, Tryd.results5, go_sem]) rfl HP.out
      have HF4 : Hid (subF l L x name len bf = if withinB len 1 100000000 = false ∨ withinB bf 0 100000000 = false then 1 else 0) := Lib.hid (HF3.out.trans rfl)
      clear HF3 HX1 HX2
      obtain ⟨m1, hm1⟩ : ∃ z, withinB len 1 100000000 = z := ⟨_, rfl⟩
      obtain ⟨m2, hm2⟩ : ∃ z, withinB bf 0 100000000 = z := ⟨_, rfl⟩
      have HX3 := Lib.hid (fun W9 => (by have h9 := event_within len 1 100000000 W9; rw [hm1] at h9; exact h9 : Calls Tryd.prog 14 #[.int .i64 len, .int .i64 1, .int .i64 100000000] W9 fun e w' => e = .returned (.bool m1) ∧ W9 = w'))
      have HX4 := Lib.hid (fun W9 => (by have h9 := event_within bf 0 100000000 W9; rw [hm2] at h9; exact h9 : Calls Tryd.prog 14 #[.int .i64 bf, .int .i64 0, .int .i64 100000000] W9 fun e w' => e = .returned (.bool m2) ∧ W9 = w'))
      rw [hm1, hm2] at HF4
      have HM1 := Lib.hid hm1
      have HM2 := Lib.hid hm2
      clear hm1 hm2
      go_wp2_with fail
      refine (HX3.out w1).mono ?_
      rintro e w2 ⟨rfl, hw⟩
      subst hw
      cases m1
      · have HN : Hid (subF l L x name len bf = 1) := Lib.hid (HF4.out.trans rfl)
        have HP : Hid (SubPost l L x name len bf w (.returned (.tuple #[.slice none 0 0, .int .i64 1])) w1) := Lib.hid (sub_bad HN.out (by decide) hbw1)
        clear hA1 HN HF4
        go_wp2
        exact bodyPost_ret (v := .tuple #[.slice none 0 0, .int .i64 1]) (by simp [results, Tryd.results5, go_sem]) rfl HP.out
      go_wp2_with fail
      refine (HX4.out w1).mono ?_
      rintro e w2 ⟨rfl, hw⟩
      subst hw
      cases m2
      · have HN : Hid (subF l L x name len bf = 1) := Lib.hid (HF4.out.trans rfl)
        have HP : Hid (SubPost l L x name len bf w (.returned (.tuple #[.slice none 0 0, .int .i64 1])) w1) := Lib.hid (sub_bad HN.out (by decide) hbw1)
        clear hA1 HN HF4
        go_wp2
        exact bodyPost_ret (v := .tuple #[.slice none 0 0, .int .i64 1]) (by simp [results, Tryd.results5, go_sem]) rfl HP.out
      have HN : Hid (subF l L x name len bf = 0) := Lib.hid (HF4.out.trans rfl)
      have hlen : 1 ≤ len ∧ len ≤ 100000000 := of_decide_eq_true HM1.out
      have hbf : 0 ≤ bf ∧ bf ≤ 100000000 := of_decide_eq_true HM2.out
      have hl20 := checkL_len HFC.out
      clear HF4 HX3 HX4 HM1 HM2 ca0 ca1 ca2
      go_wp2_with fail
      refine (exposed_at l x a c w1 hl20 (HS.out.ext hbw1)).mono ?_
      rintro e w3 ⟨o, ks, p, q, cS, cq, rfl, ho1, ho2, hR, ⟨hol, _⟩, hb3⟩
      have HR := Lib.hid hR
      have hA3 := hA1.ext hb3
      have hbw3 := ext_trans hbw1 hb3
      have ca0 : w3.cell? ⟨wb, 0, none⟩ = some (.string name) := hA3.2 0
      have hoB : w3.ownsRow w.heap.size 36 8 (.slice p o.length cS) o.length (o.flatMap sbL) := own_base' ho1 hbw1.size
      have HAB : Hid (∀ g, (Value.slice p o.length cS).ownBlock = some g → g ≠ wb ∧ g < w3.heap.size) := Lib.hid (fun g hg => by
        have h9 := ho1.lt g hg
        have h8 := hA1.1
        exact ⟨by omega, h9.2⟩)
      clear ho1 ho2 hR hb3 hA1 hbw1
      go_wp2_with fail
      refine (outcomes_at l name a c w3 hl20 (HS.out.ext hbw3)).mono ?_
      rintro e w4 ⟨mb, T, rfl, hO4, hb4⟩
      have hA4 := hA3.ext hb4
      have hoB4 := ownsRow_ext hoB hb4
      have hbw4 := ext_trans hbw3 hb4
      have HB3 : Hid (w3.heap.size ≤ w4.heap.size) := Lib.hid hb4.size
      clear hA3 hoB hb4 ca0
      obtain ⟨hnn, hl50⟩ := checkSh_ok HF2.out
      obtain ⟨s0, r0, hL0⟩ := List.exists_cons_of_ne_nil hnn
      have HKE : Hid (knownE l L = knownR l L) := Lib.hid (by rw [hL0]; exact known_same HFC.out s0 r0)
      have HLL := Lib.hid hL0
      obtain ⟨hck, _, _⟩ := check_ok HFC.out
      have HCK := Lib.hid hck
      clear hnn hL0 hck
      go_wp2_with fail
      refine (event_known l HOK.out HCK.out hl20 s0 r0 L HLL.out HSZ.out hl50 a a2 c c2 w4 (HS.out.ext hbw4) (HS2.out.ext hbw4)).mono ?_
      rw [HKE.out]
      rintro e w5 ⟨rfl, hb5⟩
      obtain ⟨kn, hkn⟩ : ∃ z, knownR l L = z := ⟨_, rfl⟩
      have HKN := Lib.hid hkn
      rw [hkn]
      have hA5 := hA4.ext hb5
      have hoB5 := ownsRow_ext hoB4 hb5
      have hO5 := hO4.ext hb5
      have hbw5 := ext_trans hbw4 hb5
      have HSL : Hid (w3.heap.size ≤ w5.heap.size) := Lib.hid (Nat.le_trans HB3.out hb5.size)
      have HO5 := Lib.hid hO5
      have HA5 := Lib.hid hA5
      have HTA : Hid (∀ s ∈ o, (0 ≤ s.time ∧ s.time ≤ 4000000000) ∧ CntB 0 s) := Lib.hid (fun s hs => by
        refine ⟨?_, (expR_cnt HR.out s hs).1⟩
        obtain ⟨e, he, h8, _⟩ := expR_from' HR.out s hs
        rw [h8]
        exact checkE_time (checkL_each HFC.out e he))
      have hlo : o.length ≤ 9223372036854775807 := by omega
      clear hkn hA4 hoB4 hb5 hbw4 HB3 hO4 hO5 hA5
      go_wp2
      go_loopw [66] (fun i wr => ∃ k : Nat, k ≤ o.length ∧ i = .int .i64 k ∧ wr.ownsRow w.heap.size 36 8 (.slice p o.length cS) o.length ((mapTo (subS len bf name kn l) o k).flatMap sbL) ∧ w5.grownBy wr (Value.slice p o.length cS).ownBlock ∧ Below w.heap.size w wr) (fun i _ => o.length - (intOf i).toNat)
      case atStart => exact ⟨0, by omega, rfl, by rw [mapTo_zero]; exact hoB5, World.grownBy.refl _ _, hbw5⟩
      case round =>
        clear hoB5 hbw5
        obtain ⟨k, hk, rfl, hoU, hgU, hbU⟩ := hrel
        by_cases hlt : k < o.length
        · have hgk := List.getElem?_eq_getElem hlt
          generalize o[k] = s at hgk
          obtain ⟨⟨hst0, hst1⟩, hcn0⟩ := HTA.out s (List.mem_of_getElem? hgk)
          obtain ⟨g, cap, hgv, hgB⟩ := own_form hoU (by omega)
          obtain rfl : p = some ⟨g, 0, none⟩ := by injection hgv
          obtain rfl : cS = cap := by injection hgv
          clear hgv
          have HGA := Lib.hid (HAB.out g rfl)
          have hgU' : w5.grownBy wr (some g) := hgU
          have hUl : k < (mapTo (subS len bf name kn l) o k).length := by rw [mapTo_len]; exact hlt
          have hUs := mapTo_same (f := subS len bf name kn l) hgk
          have hUf := mapTo_step (f := subS len bf name kn l) hgk
          obtain ⟨U, hU⟩ : ∃ z, mapTo (subS len bf name kn l) o k = z := ⟨_, rfl⟩
          rw [hU] at hoU hUl hUs hUf
          rw [← hUs] at hoU
          have HUF := Lib.hid hUf
          have hor : SR wr w.heap.size g cS o.length (U.set k s) := hoU
          obtain ⟨⟨c0, c1, c3, c4, c5, c6⟩, -, -⟩ := hor.cells hUl
          have hk0 : (0 : Int) ≤ (k : Int) := Int.natCast_nonneg _
          have hk1 : (k : Int) < (o.length : Int) := by omega
          have hOr := HO5.out.grown hgU' (fun g' hg' => by cases hg'; exact HGA.out.2)
          obtain ⟨aK, cK, hvK, hsK⟩ := hOr.sl s.key
          have hmr := hOr.map
          have hKl := hsK.len_le
          have HSK := Lib.hid hsK
          have HKB : Hid (∀ b o, aK = some ⟨b, o, none⟩ → g ≠ b) := Lib.hid (fun b o e9 => by
            have h9 := ((hOr.row s.key).1.lt b (by rw [hvK, e9]; rfl)).1
            have h8 := HGA.out.2
            omega)
          obtain ⟨es, hes⟩ : ∃ z, outsK name l s.key = z := ⟨_, rfl⟩
          have HES := Lib.hid hes
          have hesl : es.length ≤ 20000 := by rw [← hes]; exact Nat.le_trans (outsK_len _ _ _) hl20
          rw [hes] at hvK HSK hKl
          have HVK := Lib.hid hvK
          have HOK2 : Hid (∀ e ∈ es, (0 ≤ e.time ∧ e.time ≤ 4000000000) ∧ -1000000000000 ≤ e.n ∧ e.n ≤ 1000000000000) := Lib.hid (by rw [← hes]; exact outs_ok HFC.out)
          have HG := Lib.hid hgk
          clear hU hUs hUf hoU hgU hsK hes hvK hgk hOr
          go_wp2_with (at_lookup; refine wpList_rowT rfl _ _ 50 rfl str_ok Tryd.underlying50 (zero_rows _) rfl hmr s.key rfl (.slice aK es.length cK) HVK.out ?_)
          clear c0 c1 c3 c4 c5 c6 hmr
          obtain ⟨w6, rfl⟩ : ∃ W, W = wr := ⟨wr, rfl⟩
          go_loopw [79] (fun i wq => ∃ (j : Nat) (y : Sbj), j ≤ es.length ∧ i = .int .i64 j ∧ Hid ((es.take j).foldl (cntS 0 len bf) s = y) ∧ SR wq w.heap.size g cS o.length (U.set k y) ∧ w6.grownBy wq (some g) ∧ Below w.heap.size w wq) (fun i _ => es.length - (intOf i).toNat)
          case atStart => exact ⟨0, s, by omega, rfl, Lib.hid rfl, hor, World.grownBy.refl _ _, hbU⟩
          case round =>
            clear hor hbU
            obtain ⟨j, y, hj, rfl, HY, hoQ, hgQ, hbQ⟩ := hrel
            have hyt : y.time = s.time := by rw [← HY.out]; exact (fold_same 0 len bf (es.take j) s).2.1
            have HYK : Hid (y.key = s.key) := Lib.hid (by rw [← HY.out]; exact (fold_same 0 len bf (es.take j) s).1)
            have hyb : CntB j y := by rw [← HY.out]; exact hcn0.fold es (fun e he => (HOK2.out e he).2) j hj
            by_cases hlt2 : j < es.length
            · have hge := List.getElem?_eq_getElem hlt2
              generalize es[j] = e at hge
              obtain ⟨⟨het0, het1⟩, hen0, hen1⟩ := HOK2.out e (List.mem_of_getElem? hge)
              have HYN := Lib.hid (fold_take (f := cntS 0 len bf) hge s)
              have hSe := sl_kept HSK.out hgQ (fun b o e9 h => HKB.out b o e9 (by injection h))
              obtain ⟨b', o', rfl, e0, e1, e2, e3, e4, e5, e6, e7⟩ := ev_cells hSe hge
              have hj0 : (0 : Int) ≤ (j : Int) := Int.natCast_nonneg _
              have hj1 : (j : Int) < (es.length : Int) := by omega
              clear hge hSe
              go_upto_region 21 with (fail)
              clear e0 e1 e2 e3 e4 e5 e6 e7
              refine wp_box1 fun X hszX hbX hX => ?_
              clear hszX
              have hoX : SR X w.heap.size g cS o.length (U.set k y) := ownsRow_ext hoQ hbX
              have hgX := grown_below hgQ hbX
              have HEB : Hid (g ≠ wr.heap.size) := Lib.hid (by have := (hoQ.lt g rfl).2; omega)
              have hbX9 := hbQ.trans (hbX.mono hbQ.size)
              have hAX := box_grown' (box_grown' HA5.out hgU' (by intro e9; injection e9 with e9; exact HGA.out.1 e9)) hgX (by intro e9; injection e9 with e9; exact HGA.out.1 e9)
              obtain ⟨hyc, hyu, hye, hyv⟩ := hyb
              have hyc2 : 0 ≤ y.count ∧ y.count ≤ 20000 := by omega
              have hyu2 : -20000000000000000 ≤ y.sum ∧ y.sum ≤ 20000000000000000 := by omega
              have hye2 : 0 ≤ y.early ∧ y.early ≤ 20000 := by omega
              have hyv2 : -20000000000000000 ≤ y.earlySum ∧ y.earlySum ≤ 20000000000000000 := by omega
              clear hoQ hgQ hbQ hbX hyc hyu hye hyv
              by_cases hin : s.time ≤ e.time
              · have hd1 : decide (s.time ≤ e.time) = true := decide_eq_true hin
                by_cases hin2 : e.time < s.time + len
                · have hd2 : decide (e.time < s.time + len) = true := decide_eq_true hin2
                  have HN2 : Hid ((es.take (j + 1)).foldl (cntS 0 len bf) s = { y with count := y.count + 1, sum := y.sum + e.n }) := Lib.hid (by rw [HYN.out, HY.out]; exact cntS_in (by rw [hyt]; omega))
                  obtain ⟨⟨c0, c1, c3, c4, c5, c6⟩, ⟨f3, f4, f5, f6⟩, -, -⟩ := hoX.cells hUl
                  obtain ⟨g0, g1, g2, g3, g4, g5, g6, g7⟩ := box_ev hX
                  have ca1 : X.cell? ⟨wb, 1, none⟩ = some (.int .i64 len) := hAX.2 1
                  have ca2 : X.cell? ⟨wb, 2, none⟩ = some (.int .i64 bf) := hAX.2 2
                  rw [hyt] at c1
                  go_wp2_with fail
                  go_region
                  clear c0 c1 c3 c4 c5 c6 f3 f4 f5 f6 g0 g1 g2 g3 g4 g5 g6 g7 ca1 ca2
                  have hoZ : SR (X.drew) w.heap.size g cS o.length (U.set k (y)) := hoX
                  have hgZ : w6.grownBy (X.drew) (some g) := grown_drew hgX
                  have hbZ : Below w.heap.size w (X.drew) := hbX9.drew
                  have hXZ : Box (X.drew) _ (evC e) := hX
                  have hAZ : Box (X.drew) wb #[.string name, .int .i64 len, .int .i64 bf] := hAX
                  clear hoX hgX hbX9 hX hAX
                  generalize X.drew = Z at hoZ hgZ hbZ hXZ hAZ ⊢
                  obtain ⟨X, rfl⟩ : ∃ X, X = Z := ⟨Z, rfl⟩
                  have hoX := hoZ
                  have hgX := hgZ
                  have hbX9 := hbZ
                  have hX := hXZ
                  have hAX := hAZ
                  clear hoZ hgZ hbZ hXZ hAZ
                  obtain ⟨⟨c0, c1, c3, c4, c5, c6⟩, ⟨f3, f4, f5, f6⟩, -, -⟩ := hoX.cells hUl
                  obtain ⟨g0, g1, g2, g3, g4, g5, g6, g7⟩ := box_ev hX
                  have ca1 : X.cell? ⟨wb, 1, none⟩ = some (.int .i64 len) := hAX.2 1
                  have ca2 : X.cell? ⟨wb, 2, none⟩ = some (.int .i64 bf) := hAX.2 2
                  go_upto_region 23 with (fail)
                  clear c0 c1 c3 c4 c5 c6 f3 f4 f5 f6 g0 g1 g2 g3 g4 g5 g6 g7 ca1 ca2
                  have hoZ : SR ((X.setCell ⟨g, k * 8 + 3, none⟩ (.int .i64 (y.count + 1)))) w.heap.size g cS o.length (U.set k ({ y with count := y.count + 1 })) := hoX.put hUl 3 (.int .i64 (y.count + 1)) (by decide) rfl
                  have hgZ : w6.grownBy ((X.setCell ⟨g, k * 8 + 3, none⟩ (.int .i64 (y.count + 1)))) (some g) := grown_set hgX _ _
                  have hbZ : Below w.heap.size w ((X.setCell ⟨g, k * 8 + 3, none⟩ (.int .i64 (y.count + 1)))) := hbX9.setCell (p := ⟨g, k * 8 + 3, none⟩) hgB _
                  have hXZ : Box ((X.setCell ⟨g, k * 8 + 3, none⟩ (.int .i64 (y.count + 1)))) _ (evC e) := box_set hX HEB.out _ _
                  have hAZ : Box ((X.setCell ⟨g, k * 8 + 3, none⟩ (.int .i64 (y.count + 1)))) wb #[.string name, .int .i64 len, .int .i64 bf] := box_set hAX HGA.out.1 _ _
                  clear hoX hgX hbX9 hX hAX
                  generalize (X.setCell ⟨g, k * 8 + 3, none⟩ (.int .i64 (y.count + 1))) = Z at hoZ hgZ hbZ hXZ hAZ ⊢
                  obtain ⟨X, rfl⟩ : ∃ X, X = Z := ⟨Z, rfl⟩
                  have hoX := hoZ
                  have hgX := hgZ
                  have hbX9 := hbZ
                  have hX := hXZ
                  have hAX := hAZ
                  clear hoZ hgZ hbZ hXZ hAZ
                  obtain ⟨⟨c0, c1, c3, c4, c5, c6⟩, ⟨f3, f4, f5, f6⟩, -, -⟩ := hoX.cells hUl
                  obtain ⟨g0, g1, g2, g3, g4, g5, g6, g7⟩ := box_ev hX
                  have ca1 : X.cell? ⟨wb, 1, none⟩ = some (.int .i64 len) := hAX.2 1
                  have ca2 : X.cell? ⟨wb, 2, none⟩ = some (.int .i64 bf) := hAX.2 2
                  go_wp2_with fail
                  go_region
                  clear c0 c1 c3 c4 c5 c6 f3 f4 f5 f6 g0 g1 g2 g3 g4 g5 g6 g7 ca1 ca2
                  have hoZ : SR ((X.setCell ⟨g, k * 8 + 4, none⟩ (.int .i64 (y.sum + e.n))).drew) w.heap.size g cS o.length (U.set k ({ y with count := y.count + 1, sum := y.sum + e.n })) := hoX.put hUl 4 (.int .i64 (y.sum + e.n)) (by decide) rfl
                  have hgZ : w6.grownBy ((X.setCell ⟨g, k * 8 + 4, none⟩ (.int .i64 (y.sum + e.n))).drew) (some g) := grown_drew (grown_set hgX _ _)
                  have hbZ : Below w.heap.size w ((X.setCell ⟨g, k * 8 + 4, none⟩ (.int .i64 (y.sum + e.n))).drew) := (hbX9.setCell (p := ⟨g, k * 8 + 4, none⟩) hgB _).drew
                  have hXZ : Box ((X.setCell ⟨g, k * 8 + 4, none⟩ (.int .i64 (y.sum + e.n))).drew) _ (evC e) := box_set hX HEB.out _ _
                  have hAZ : Box ((X.setCell ⟨g, k * 8 + 4, none⟩ (.int .i64 (y.sum + e.n))).drew) wb #[.string name, .int .i64 len, .int .i64 bf] := box_set hAX HGA.out.1 _ _
                  clear hoX hgX hbX9 hX hAX
                  generalize (X.setCell ⟨g, k * 8 + 4, none⟩ (.int .i64 (y.sum + e.n))).drew = Z at hoZ hgZ hbZ hXZ hAZ ⊢
                  obtain ⟨X, rfl⟩ : ∃ X, X = Z := ⟨Z, rfl⟩
                  have hoX := hoZ
                  have hgX := hgZ
                  have hbX9 := hbZ
                  have hX := hXZ
                  have hAX := hAZ
                  clear hoZ hgZ hbZ hXZ hAZ
                  clear hX hAX
                  go_wp2
                  exact ⟨⟨j + 1, { y with count := y.count + 1, sum := y.sum + e.n }, by omega, by go_num, HN2, hoX, hgX, hbX9⟩, by simp [intOf]; omega⟩
                · have hd2 : decide (e.time < s.time + len) = false := decide_eq_false hin2
                  have hd3 : decide (e.time < s.time) = false := decide_eq_false (by omega)
                  have HN2 : Hid ((es.take (j + 1)).foldl (cntS 0 len bf) s = y) := Lib.hid (by rw [HYN.out, HY.out]; exact cntS_out (by rw [hyt]; omega) (by rw [hyt]; omega))
                  obtain ⟨⟨c0, c1, c3, c4, c5, c6⟩, ⟨f3, f4, f5, f6⟩, -, -⟩ := hoX.cells hUl
                  obtain ⟨g0, g1, g2, g3, g4, g5, g6, g7⟩ := box_ev hX
                  have ca1 : X.cell? ⟨wb, 1, none⟩ = some (.int .i64 len) := hAX.2 1
                  have ca2 : X.cell? ⟨wb, 2, none⟩ = some (.int .i64 bf) := hAX.2 2
                  rw [hyt] at c1
                  go_wp2_with fail
                  go_region
                  clear c0 c1 c3 c4 c5 c6 f3 f4 f5 f6 g0 g1 g2 g3 g4 g5 g6 g7 ca1 ca2
                  have hoZ : SR (X.drew) w.heap.size g cS o.length (U.set k (y)) := hoX
                  have hgZ : w6.grownBy (X.drew) (some g) := grown_drew hgX
                  have hbZ : Below w.heap.size w (X.drew) := hbX9.drew
                  have hXZ : Box (X.drew) _ (evC e) := hX
                  have hAZ : Box (X.drew) wb #[.string name, .int .i64 len, .int .i64 bf] := hAX
                  clear hoX hgX hbX9 hX hAX
                  generalize X.drew = Z at hoZ hgZ hbZ hXZ hAZ ⊢
                  obtain ⟨X, rfl⟩ : ∃ X, X = Z := ⟨Z, rfl⟩
                  have hoX := hoZ
                  have hgX := hgZ
                  have hbX9 := hbZ
                  have hX := hXZ
                  have hAX := hAZ
                  clear hoZ hgZ hbZ hXZ hAZ
                  obtain ⟨⟨c0, c1, c3, c4, c5, c6⟩, ⟨f3, f4, f5, f6⟩, -, -⟩ := hoX.cells hUl
                  obtain ⟨g0, g1, g2, g3, g4, g5, g6, g7⟩ := box_ev hX
                  have ca1 : X.cell? ⟨wb, 1, none⟩ = some (.int .i64 len) := hAX.2 1
                  have ca2 : X.cell? ⟨wb, 2, none⟩ = some (.int .i64 bf) := hAX.2 2
                  rw [hyt] at c1
                  go_wp2_with fail
                  go_region
                  clear c0 c1 c3 c4 c5 c6 f3 f4 f5 f6 g0 g1 g2 g3 g4 g5 g6 g7 ca1 ca2
                  have hoZ : SR (X.drew) w.heap.size g cS o.length (U.set k (y)) := hoX
                  have hgZ : w6.grownBy (X.drew) (some g) := grown_drew hgX
                  have hbZ : Below w.heap.size w (X.drew) := hbX9.drew
                  have hXZ : Box (X.drew) _ (evC e) := hX
                  have hAZ : Box (X.drew) wb #[.string name, .int .i64 len, .int .i64 bf] := hAX
                  clear hoX hgX hbX9 hX hAX
                  generalize X.drew = Z at hoZ hgZ hbZ hXZ hAZ ⊢
                  obtain ⟨X, rfl⟩ : ∃ X, X = Z := ⟨Z, rfl⟩
                  have hoX := hoZ
                  have hgX := hgZ
                  have hbX9 := hbZ
                  have hX := hXZ
                  have hAX := hAZ
                  clear hoZ hgZ hbZ hXZ hAZ
                  clear hX hAX
                  go_wp2
                  exact ⟨⟨j + 1, y, by omega, by go_num, HN2, hoX, hgX, hbX9⟩, by simp [intOf]; omega⟩
              · have hd1 : decide (s.time ≤ e.time) = false := decide_eq_false hin
                have hd3 : decide (e.time < s.time) = true := decide_eq_true (by omega)
                by_cases hin2 : s.time - bf ≤ e.time
                · have hd2 : decide (s.time - bf ≤ e.time) = true := decide_eq_true hin2
                  have HN2 : Hid ((es.take (j + 1)).foldl (cntS 0 len bf) s = { y with early := y.early + 1, earlySum := y.earlySum + e.n }) := Lib.hid (by rw [HYN.out, HY.out]; exact cntS_early (by rw [hyt]; omega) (by rw [hyt]; omega))
                  obtain ⟨⟨c0, c1, c3, c4, c5, c6⟩, ⟨f3, f4, f5, f6⟩, -, -⟩ := hoX.cells hUl
                  obtain ⟨g0, g1, g2, g3, g4, g5, g6, g7⟩ := box_ev hX
                  have ca1 : X.cell? ⟨wb, 1, none⟩ = some (.int .i64 len) := hAX.2 1
                  have ca2 : X.cell? ⟨wb, 2, none⟩ = some (.int .i64 bf) := hAX.2 2
                  rw [hyt] at c1
                  go_wp2_with fail
                  go_region
                  clear c0 c1 c3 c4 c5 c6 f3 f4 f5 f6 g0 g1 g2 g3 g4 g5 g6 g7 ca1 ca2
                  have hoZ : SR (X.drew) w.heap.size g cS o.length (U.set k (y)) := hoX
                  have hgZ : w6.grownBy (X.drew) (some g) := grown_drew hgX
                  have hbZ : Below w.heap.size w (X.drew) := hbX9.drew
                  have hXZ : Box (X.drew) _ (evC e) := hX
                  have hAZ : Box (X.drew) wb #[.string name, .int .i64 len, .int .i64 bf] := hAX
                  clear hoX hgX hbX9 hX hAX
                  generalize X.drew = Z at hoZ hgZ hbZ hXZ hAZ ⊢
                  obtain ⟨X, rfl⟩ : ∃ X, X = Z := ⟨Z, rfl⟩
                  have hoX := hoZ
                  have hgX := hgZ
                  have hbX9 := hbZ
                  have hX := hXZ
                  have hAX := hAZ
                  clear hoZ hgZ hbZ hXZ hAZ
                  obtain ⟨⟨c0, c1, c3, c4, c5, c6⟩, ⟨f3, f4, f5, f6⟩, -, -⟩ := hoX.cells hUl
                  obtain ⟨g0, g1, g2, g3, g4, g5, g6, g7⟩ := box_ev hX
                  have ca1 : X.cell? ⟨wb, 1, none⟩ = some (.int .i64 len) := hAX.2 1
                  have ca2 : X.cell? ⟨wb, 2, none⟩ = some (.int .i64 bf) := hAX.2 2
                  rw [hyt] at c1
                  go_wp2_with fail
                  go_region
                  clear c0 c1 c3 c4 c5 c6 f3 f4 f5 f6 g0 g1 g2 g3 g4 g5 g6 g7 ca1 ca2
                  have hoZ : SR (X.drew) w.heap.size g cS o.length (U.set k (y)) := hoX
                  have hgZ : w6.grownBy (X.drew) (some g) := grown_drew hgX
                  have hbZ : Below w.heap.size w (X.drew) := hbX9.drew
                  have hXZ : Box (X.drew) _ (evC e) := hX
                  have hAZ : Box (X.drew) wb #[.string name, .int .i64 len, .int .i64 bf] := hAX
                  clear hoX hgX hbX9 hX hAX
                  generalize X.drew = Z at hoZ hgZ hbZ hXZ hAZ ⊢
                  obtain ⟨X, rfl⟩ : ∃ X, X = Z := ⟨Z, rfl⟩
                  have hoX := hoZ
                  have hgX := hgZ
                  have hbX9 := hbZ
                  have hX := hXZ
                  have hAX := hAZ
                  clear hoZ hgZ hbZ hXZ hAZ
                  obtain ⟨⟨c0, c1, c3, c4, c5, c6⟩, ⟨f3, f4, f5, f6⟩, -, -⟩ := hoX.cells hUl
                  obtain ⟨g0, g1, g2, g3, g4, g5, g6, g7⟩ := box_ev hX
                  have ca1 : X.cell? ⟨wb, 1, none⟩ = some (.int .i64 len) := hAX.2 1
                  have ca2 : X.cell? ⟨wb, 2, none⟩ = some (.int .i64 bf) := hAX.2 2
                  go_upto_region 26 with (fail)
                  clear c0 c1 c3 c4 c5 c6 f3 f4 f5 f6 g0 g1 g2 g3 g4 g5 g6 g7 ca1 ca2
                  have hoZ : SR ((X.setCell ⟨g, k * 8 + 5, none⟩ (.int .i64 (y.early + 1)))) w.heap.size g cS o.length (U.set k ({ y with early := y.early + 1 })) := hoX.put hUl 5 (.int .i64 (y.early + 1)) (by decide) rfl
                  have hgZ : w6.grownBy ((X.setCell ⟨g, k * 8 + 5, none⟩ (.int .i64 (y.early + 1)))) (some g) := grown_set hgX _ _
                  have hbZ : Below w.heap.size w ((X.setCell ⟨g, k * 8 + 5, none⟩ (.int .i64 (y.early + 1)))) := hbX9.setCell (p := ⟨g, k * 8 + 5, none⟩) hgB _
                  have hXZ : Box ((X.setCell ⟨g, k * 8 + 5, none⟩ (.int .i64 (y.early + 1)))) _ (evC e) := box_set hX HEB.out _ _
                  have hAZ : Box ((X.setCell ⟨g, k * 8 + 5, none⟩ (.int .i64 (y.early + 1)))) wb #[.string name, .int .i64 len, .int .i64 bf] := box_set hAX HGA.out.1 _ _
                  clear hoX hgX hbX9 hX hAX
                  generalize (X.setCell ⟨g, k * 8 + 5, none⟩ (.int .i64 (y.early + 1))) = Z at hoZ hgZ hbZ hXZ hAZ ⊢
                  obtain ⟨X, rfl⟩ : ∃ X, X = Z := ⟨Z, rfl⟩
                  have hoX := hoZ
                  have hgX := hgZ
                  have hbX9 := hbZ
                  have hX := hXZ
                  have hAX := hAZ
                  clear hoZ hgZ hbZ hXZ hAZ
                  obtain ⟨⟨c0, c1, c3, c4, c5, c6⟩, ⟨f3, f4, f5, f6⟩, -, -⟩ := hoX.cells hUl
                  obtain ⟨g0, g1, g2, g3, g4, g5, g6, g7⟩ := box_ev hX
                  have ca1 : X.cell? ⟨wb, 1, none⟩ = some (.int .i64 len) := hAX.2 1
                  have ca2 : X.cell? ⟨wb, 2, none⟩ = some (.int .i64 bf) := hAX.2 2
                  go_wp2_with fail
                  go_region
                  clear c0 c1 c3 c4 c5 c6 f3 f4 f5 f6 g0 g1 g2 g3 g4 g5 g6 g7 ca1 ca2
                  have hoZ : SR ((X.setCell ⟨g, k * 8 + 6, none⟩ (.int .i64 (y.earlySum + e.n))).drew) w.heap.size g cS o.length (U.set k ({ y with early := y.early + 1, earlySum := y.earlySum + e.n })) := hoX.put hUl 6 (.int .i64 (y.earlySum + e.n)) (by decide) rfl
                  have hgZ : w6.grownBy ((X.setCell ⟨g, k * 8 + 6, none⟩ (.int .i64 (y.earlySum + e.n))).drew) (some g) := grown_drew (grown_set hgX _ _)
                  have hbZ : Below w.heap.size w ((X.setCell ⟨g, k * 8 + 6, none⟩ (.int .i64 (y.earlySum + e.n))).drew) := (hbX9.setCell (p := ⟨g, k * 8 + 6, none⟩) hgB _).drew
                  have hXZ : Box ((X.setCell ⟨g, k * 8 + 6, none⟩ (.int .i64 (y.earlySum + e.n))).drew) _ (evC e) := box_set hX HEB.out _ _
                  have hAZ : Box ((X.setCell ⟨g, k * 8 + 6, none⟩ (.int .i64 (y.earlySum + e.n))).drew) wb #[.string name, .int .i64 len, .int .i64 bf] := box_set hAX HGA.out.1 _ _
                  clear hoX hgX hbX9 hX hAX
                  generalize (X.setCell ⟨g, k * 8 + 6, none⟩ (.int .i64 (y.earlySum + e.n))).drew = Z at hoZ hgZ hbZ hXZ hAZ ⊢
                  obtain ⟨X, rfl⟩ : ∃ X, X = Z := ⟨Z, rfl⟩
                  have hoX := hoZ
                  have hgX := hgZ
                  have hbX9 := hbZ
                  have hX := hXZ
                  have hAX := hAZ
                  clear hoZ hgZ hbZ hXZ hAZ
                  clear hX hAX
                  go_wp2
                  exact ⟨⟨j + 1, { y with early := y.early + 1, earlySum := y.earlySum + e.n }, by omega, by go_num, HN2, hoX, hgX, hbX9⟩, by simp [intOf]; omega⟩
                · have hd2 : decide (s.time - bf ≤ e.time) = false := decide_eq_false hin2
                  have HN2 : Hid ((es.take (j + 1)).foldl (cntS 0 len bf) s = y) := Lib.hid (by rw [HYN.out, HY.out]; exact cntS_out (by rw [hyt]; omega) (by rw [hyt]; omega))
                  obtain ⟨⟨c0, c1, c3, c4, c5, c6⟩, ⟨f3, f4, f5, f6⟩, -, -⟩ := hoX.cells hUl
                  obtain ⟨g0, g1, g2, g3, g4, g5, g6, g7⟩ := box_ev hX
                  have ca1 : X.cell? ⟨wb, 1, none⟩ = some (.int .i64 len) := hAX.2 1
                  have ca2 : X.cell? ⟨wb, 2, none⟩ = some (.int .i64 bf) := hAX.2 2
                  rw [hyt] at c1
                  go_wp2_with fail
                  go_region
                  clear c0 c1 c3 c4 c5 c6 f3 f4 f5 f6 g0 g1 g2 g3 g4 g5 g6 g7 ca1 ca2
                  have hoZ : SR (X.drew) w.heap.size g cS o.length (U.set k (y)) := hoX
                  have hgZ : w6.grownBy (X.drew) (some g) := grown_drew hgX
                  have hbZ : Below w.heap.size w (X.drew) := hbX9.drew
                  have hXZ : Box (X.drew) _ (evC e) := hX
                  have hAZ : Box (X.drew) wb #[.string name, .int .i64 len, .int .i64 bf] := hAX
                  clear hoX hgX hbX9 hX hAX
                  generalize X.drew = Z at hoZ hgZ hbZ hXZ hAZ ⊢
                  obtain ⟨X, rfl⟩ : ∃ X, X = Z := ⟨Z, rfl⟩
                  have hoX := hoZ
                  have hgX := hgZ
                  have hbX9 := hbZ
                  have hX := hXZ
                  have hAX := hAZ
                  clear hoZ hgZ hbZ hXZ hAZ
                  obtain ⟨⟨c0, c1, c3, c4, c5, c6⟩, ⟨f3, f4, f5, f6⟩, -, -⟩ := hoX.cells hUl
                  obtain ⟨g0, g1, g2, g3, g4, g5, g6, g7⟩ := box_ev hX
                  have ca1 : X.cell? ⟨wb, 1, none⟩ = some (.int .i64 len) := hAX.2 1
                  have ca2 : X.cell? ⟨wb, 2, none⟩ = some (.int .i64 bf) := hAX.2 2
                  rw [hyt] at c1
                  go_wp2_with fail
                  go_region
                  clear c0 c1 c3 c4 c5 c6 f3 f4 f5 f6 g0 g1 g2 g3 g4 g5 g6 g7 ca1 ca2
                  have hoZ : SR (X.drew) w.heap.size g cS o.length (U.set k (y)) := hoX
                  have hgZ : w6.grownBy (X.drew) (some g) := grown_drew hgX
                  have hbZ : Below w.heap.size w (X.drew) := hbX9.drew
                  have hXZ : Box (X.drew) _ (evC e) := hX
                  have hAZ : Box (X.drew) wb #[.string name, .int .i64 len, .int .i64 bf] := hAX
                  clear hoX hgX hbX9 hX hAX
                  generalize X.drew = Z at hoZ hgZ hbZ hXZ hAZ ⊢
                  obtain ⟨X, rfl⟩ : ∃ X, X = Z := ⟨Z, rfl⟩
                  have hoX := hoZ
                  have hgX := hgZ
                  have hbX9 := hbZ
                  have hX := hXZ
                  have hAX := hAZ
                  clear hoZ hgZ hbZ hXZ hAZ
                  clear hX hAX
                  go_wp2
                  exact ⟨⟨j + 1, y, by omega, by go_num, HN2, hoX, hgX, hbX9⟩, by simp [intOf]; omega⟩
            · have HNE : Hid (cntX 0 len bf name l s = y) := Lib.hid (by
                unfold cntX
                rw [HES.out, ← HY.out, List.take_of_length_le (by omega)])
              have hAQ := box_grown' (box_grown' HA5.out hgU' (by intro e9; injection e9 with e9; exact HGA.out.1 e9)) hgQ (by intro e9; injection e9 with e9; exact HGA.out.1 e9)
              obtain ⟨⟨c0, c1, c3, c4, c5, c6⟩, -, c7, f7⟩ := hoQ.cells hUl
              rw [hyt] at c1
              have ca1 : wr.cell? ⟨wb, 1, none⟩ = some (.int .i64 len) := hAQ.2 1
              have hsub : subS len bf name kn l s = { y with closed := decide (s.time + len ≤ kn) } := by unfold subS; rw [HNE.out]
              have hoN0 := hoQ.put hUl (s' := { y with closed := decide (s.time + len ≤ kn) }) 7 (.bool (decide (s.time + len ≤ kn))) (by decide) rfl
              rw [← hsub, HUF.out] at hoN0
              have hgN0 := grown_drew (grown_set (grown_trans hgU' hgQ) (k * 8 + 7) (.bool (decide (s.time + len ≤ kn))))
              have hbN0 := (hbQ.setCell (p := ⟨g, k * 8 + 7, none⟩) hgB (.bool (decide (s.time + len ≤ kn)))).drew
              clear hsub hAQ hgQ hbQ hoQ hyb hyt
              go_wp2_with fail
              go_region
              clear c0 c1 c3 c4 c5 c6 c7 f7 ca1
              have hoN : (wr.setCell ⟨g, k * 8 + 7, none⟩ (.bool (decide (s.time + len ≤ kn)))).drew.ownsRow w.heap.size 36 8 (.slice (some ⟨g, 0, none⟩) o.length cS) o.length ((mapTo (subS len bf name kn l) o (k + 1)).flatMap sbL) := hoN0
              have hgN : w5.grownBy (wr.setCell ⟨g, k * 8 + 7, none⟩ (.bool (decide (s.time + len ≤ kn)))).drew (Value.slice (some ⟨g, 0, none⟩) o.length cS).ownBlock := hgN0
              clear hoN0 hgN0
              generalize (wr.setCell ⟨g, k * 8 + 7, none⟩ (.bool (decide (s.time + len ≤ kn)))).drew = Z at hoN hgN hbN0 ⊢
              go_wp2
              exact ⟨⟨k + 1, by omega, by go_num, hoN, hgN, hbN0⟩, by simp [intOf]; omega⟩
        · have hall : mapTo (subS len bf name kn l) o k = o.map (subS len bf name kn l) := mapTo_all (by omega)
          rw [hall] at hoU
          have HP : Hid (SubPost l L x name len bf w (.returned (.tuple #[.slice p o.length cS, .int .i64 0])) wr) := Lib.hid ⟨o.map (subS len bf name kn l), p, cS, by rw [HN.out, List.length_map], by rw [List.length_map]; exact Sl.ofOwn hoU, by rw [if_pos HN.out]; exact ⟨o, ks, HR.out, by rw [HKN.out]⟩, hbU⟩
          clear hoU hgU hbU hall
          go_wp2
          exact bodyPost_ret (v := .tuple #[.slice p o.length cS, .int .i64 0]) (by simp [results, Tryd.results5, go_sem]) rfl HP.out
    · have hne2 : (f2 != 0) = true := by simpa using h2
      have HN : Hid (subF l L x name len bf = f2) := Lib.hid (HF1.out.trans (if_pos h2))
      have HP : Hid (SubPost l L x name len bf w (.returned (.tuple #[.slice none 0 0, .int .i64 f2])) w1) := Lib.hid (sub_bad HN.out h2 hbw1)
      clear h2 hA1 HF1
      go_wp2
      exact bodyPost_ret (v := .tuple #[.slice none 0 0, .int .i64 f2]) (by simp [results, Tryd.results5, go_sem]) rfl HP.out
  · have hne : (f != 0) = true := by simpa using h0
    have HN : Hid (subF l L x name len bf = f) := Lib.hid (HF.out.trans (if_pos h0))
    have HP : Hid (SubPost l L x name len bf w (.returned (.tuple #[.slice none 0 0, .int .i64 f])) w1) := Lib.hid (sub_bad HN.out h0 hbw1)
    clear h0 hA1 HF
    go_wp2
    exact bodyPost_ret (v := .tuple #[.slice none 0 0, .int .i64 f]) (by simp [results, Tryd.results5, go_sem]) rfl HP.out
end Ex
end Go.Proofs.YtacchooggifnhaaDoor
