/- counted of the reference. Printed by gen_rsub.py. -/
import Derived.Test.YtacchooggifnhaaTw14
import Derived.Test.YtacchooggifnhaaTw15
namespace Go.Proofs.Ytacchooggifnhaa
open Go.RowKit Go.ChangeMaps
namespace Ex
abbrev intV : Int → Value := Value.int .i64
theorem zero_int (w : World) : (zeroValue 3).run Try.prog w = .ok (.int .i64 0) w := by kernel_rfl
theorem wpList_place {P : Program} {w : World} {ops : Array Oper} {rest : List Oper} {o : Oper} {a : Act} {Q : Exit → Act → World → Prop} (hg : o.guard = none) (m x : Operand) (t : TypeId) (hop : o.op = Op.lookup t m x true)
    {K E : TypeId} (ko : KeyOk P K Value.string) (ht : P.underlying t = some (.map K E)) (hz : (zeroValue E).run P w = .ok (.int .i64 0) w) {b : Nat} {M : List (ByteArray × Int)}
    (hm : a.eval m = .map (some b)) (h : MapIs Value.string intV w b M) (y : ByteArray) (hx : a.eval x = .string y) {z : Int} {bb : Bool} (hv : (look M y).getD 0 = z) (hb : (look M y).isSome = bb)
    (hK : wpList P ops Q rest (a.put o.dst (.tuple #[.int .i64 z, .bool bb])) w) : wpList P ops Q (o :: rest) a w := by
  refine wpList_lookup_a hg m x t true hop ko ht hz hm h y hx ?_
  have e : ((look M y).map intV).getD (.int .i64 0) = .int .i64 z := by rw [← hv]; cases look M y <;> rfl
  rw [if_pos rfl, e, hb]; exact hK
theorem out_no {name : ByteArray} {e : Ev} (h : ¬ (e.kind = 2 ∧ e.name = name)) : isOutc name e = false := by
  unfold isOutc
  by_cases h1 : e.kind = 2
  · rw [decide_eq_false (fun h2 => h ⟨h1, h2⟩)]; simp
  · rw [decide_eq_false h1]; rfl
theorem out_yes {name : ByteArray} {e : Ev} (h : e.kind = 2) (k : e.name = name) : isOutc name e = true := by unfold isOutc; rw [decide_eq_true h, decide_eq_true k]; rfl
theorem set_self {α : Type} {U : List α} {i : Nat} {y : α} (h : U[i]? = some y) : U.set i y = U := by
  apply List.ext_getElem?
  intro q
  rw [List.getElem?_set]
  by_cases e : i = q
  · subst e; rw [if_pos rfl, if_pos (List.getElem?_eq_some_iff.1 h).1, h]
  · rw [if_neg e]
set_option maxRecDepth 100000 in
set_option maxHeartbeats 16000000 in
theorem counted_at (l : List Ev) (hck : ∀ e ∈ l, checkE e = 0) (hl20 : l.length ≤ 20000) (o : List Sbj) (ha : AscK o) (ho20 : o.length ≤ 20000) (hoT : ∀ s ∈ o, (0 ≤ s.time ∧ s.time ≤ 4000000000) ∧ CntB 0 s) (name : ByteArray) (fr to bf : Int) (hfr : 0 ≤ fr ∧ fr ≤ 100000000) (hto : 0 ≤ to ∧ to ≤ 100000000) (hbf : 0 ≤ bf ∧ bf ≤ 100000000)
    (a p : Option Addr) (c cS : Nat) (w0 w : World) (hs : Sl w0 (.slice a l.length c) l.length (l.flatMap evL)) (hb0 : Below w0.heap.size w0 w) (hown : w.ownsRow w0.heap.size 32 8 (.slice p o.length cS) o.length (o.flatMap sbL)) :
    Calls Try.prog 43 #[.slice a l.length c, .slice p o.length cS, .string name, .int .i64 fr, .int .i64 to, .int .i64 bf] w fun e w' => e = .returned (.slice p o.length cS) ∧ w'.ownsRow w0.heap.size 32 8 (.slice p o.length cS) o.length ((o.map (cntX fr to bf name l)).flatMap sbL) ∧ Below w0.heap.size w0 w' ∧ w.grownBy w' (Value.slice p o.length cS).ownBlock := by
  have hl := hs.len_le
  have HCK := Lib.hid hck
  have HS := Lib.hid hs
  have HA := Lib.hid ha
  have HOT := Lib.hid hoT
  have HSO := Lib.hid (Sl.ofOwn hown)
  have hlo : o.length ≤ 9223372036854775807 := by omega
  have hmm := @run_makeMap Try.prog
  clear hs hck ha hoT
  go_enter Try.func43, Try.ntmps43
  go_upto_region 2 with (fail)
  refine wp_mapNew Value.string intV fun W1 hbW1 hmW1 => ?_
  clear hmm
  obtain ⟨pb, hpb⟩ : ∃ z, w.heap.size = z := ⟨_, rfl⟩
  rw [hpb] at hmW1 ⊢
  have hmP0 : MapIs Value.string intV W1 pb (placeL (o.take 0)) := hmW1
  have hgW1 : w.grownBy W1 (Value.slice p o.length cS).ownBlock := grown_below (World.grownBy.refl _ _) hbW1
  clear hmW1
  go_wp2
  go_loopw [25] (fun i wr => ∃ k : Nat, k ≤ o.length ∧ i = .int .i64 k ∧ MapIs Value.string intV wr pb (placeL (o.take k)) ∧ Below w.heap.size w wr) (fun i _ => o.length - (intOf i).toNat)
  case atStart => exact ⟨0, by omega, rfl, hmP0, hbW1⟩
  case round =>
    clear hmP0 hbW1
    obtain ⟨k, hk, rfl, hmP, hbr⟩ := hrel
    by_cases hlt : k < o.length
    · have hgk := List.getElem?_eq_getElem hlt
      generalize o[k] = s at hgk
      have HPU := Lib.hid (placeL_put HA.out hgk)
      obtain ⟨b, o', rfl, e0, e1, e2, e3, e4, e5, e6, e7⟩ := sb_cells (HSO.out.ext hbr) hgk
      have hk0 : (0 : Int) ≤ (k : Int) := Int.natCast_nonneg _
      have hk1 : (k : Int) < (o.length : Int) := by omega
      clear hgk
      go_upto_region 5 with (fail)
      clear e0 e1 e2 e3 e4 e5 e6 e7
      refine wp_box1 fun X hszX hbX hX => ?_
      obtain ⟨g0, g1, g2, g3, g4, g5, g6, g7⟩ := box_sb hX
      replace hmP := hmP.ext hbX
      replace hbr := ext_trans hbr hbX
      clear hX hszX hbX
      go_wp2_with (at_mapUpdate; refine wpList_update_a rfl _ _ _ 94 rfl str_ok Try.underlying94 rfl hmP s.key rfl (k : Int) rfl ?_; intro w6 hm6 ht6)
      rw [HPU.out] at hm6
      have hb6 := hbr.trans (turned_below ht6 (by omega))
      clear hmP hbr ht6 g0 g1 g2 g3 g4 g5 g6 g7
      go_wp2
      go_roundw
      case rel => exact ⟨k + 1, by omega, by go_num, hm6, hb6⟩
      case measure => simp [intOf]; omega
    · have hmP1 : MapIs Value.string intV wr pb (placeL o) := by rw [List.take_of_length_le (by omega)] at hmP; exact hmP
      have hoR := ownsRow_ext hown hbr
      have hgR : w.grownBy wr (Value.slice p o.length cS).ownBlock := grown_below (World.grownBy.refl _ _) hbr
      have hbR := hb0.trans (hbr.mono hb0.size)
      have HPB : Hid (∀ g, (Value.slice p o.length cS).ownBlock = some g → g ≠ pb) := Lib.hid (fun g hg => by
        have h9 := (hown.lt g hg).2
        omega)
      have HMP := Lib.hid hmP1
      obtain ⟨w1, rfl⟩ : ∃ W, W = wr := ⟨wr, rfl⟩
      clear hmP hbr hmP1
      go_wp2
      clear hlt hk
      go_loopw [37] (fun i wq => ∃ j : Nat, j ≤ l.length ∧ i = .int .i64 j ∧ wq.ownsRow w0.heap.size 32 8 (.slice p o.length cS) o.length ((o.map (cntX fr to bf name (l.take j))).flatMap sbL) ∧ w1.grownBy wq (Value.slice p o.length cS).ownBlock ∧ Below w0.heap.size w0 wq) (fun i _ => l.length - (intOf i).toNat)
      case atStart => exact ⟨0, by omega, rfl, by rw [List.take_zero, show o.map (cntX fr to bf name []) = o.map id from List.map_congr_left (fun s _ => by simp [cntX, outsK]), List.map_id]; exact hoR, World.grownBy.refl _ _, hbR⟩
      case round =>
        clear hoR hbR
        obtain ⟨j, hj, rfl, hoQ, hgQ, hbQ⟩ := hrel
        by_cases hlt : j < l.length
        · have hge := List.getElem?_eq_getElem hlt
          generalize l[j] = e at hge
          have hcke := HCK.out e (List.mem_of_getElem? hge)
          obtain ⟨het0, het1⟩ := checkE_time hcke
          have HCE := Lib.hid hcke
          obtain ⟨b, o', rfl, e0, e1, e2, e3, e4, e5, e6, e7⟩ := ev_cells (HS.out.ext hbQ) hge
          have hj0 : (0 : Int) ≤ (j : Int) := Int.natCast_nonneg _
          have hj1 : (j : Int) < (l.length : Int) := by omega
          have HG := Lib.hid hge
          clear hge hcke
          go_upto_region 10 with (fail)
          clear e0 e1 e2 e3 e4 e5 e6 e7
          refine wp_box1 fun X hszX hbX hX => ?_
          clear hszX
          have hoX := ownsRow_ext hoQ hbX
          have hgX := grown_below hgQ hbX
          have hbX9 := hbQ.trans (hbX.mono hbQ.size)
          have HEB : Hid (∀ g, (Value.slice p o.length cS).ownBlock = some g → g ≠ wr.heap.size) := Lib.hid (fun g hg => by have := (hoQ.lt g hg).2; omega)
          have hmX := HMP.out.grown hgX (fun e9 => HPB.out pb e9 rfl)
          obtain ⟨g0, g1, g2, g3, g4, g5, g6, g7⟩ := box_ev hX
          clear hoQ hgQ hbQ hbX
          obtain ⟨z9, hz9⟩ : ∃ z, (look (placeL o) e.key).getD 0 = z := ⟨_, rfl⟩
          obtain ⟨k9, hk9⟩ : ∃ z, (look (placeL o) e.key).isSome = z := ⟨_, rfl⟩
          have HZ9 := Lib.hid hz9
          have HK9 := Lib.hid hk9
          clear hz9 hk9
          go_upto_region 11 with (at_lookup; refine wpList_place rfl _ _ 94 rfl str_ok Try.underlying94 (zero_int _) rfl hmX e.key rfl HZ9.out HK9.out ?_)
          by_cases hkd : e.kind = 2
          · have hkb : (e.kind != 2) = false := by simpa using hkd
            by_cases hnx : e.name = name
            · have HOY := Lib.hid (out_yes hkd hnx)
              have hnb : (e.name.toList == name.toList) = true := by rw [hnx]; simp
              have hnb2 : e.name.toList = name.toList := by rw [hnx]
              have HEN : Hid (-1000000000000 ≤ e.n ∧ e.n ≤ 1000000000000) := Lib.hid (checkE_n HCE.out hkd)
              clear hkd hnx
              rcases placeL_cases HA.out e.key with ⟨hlk, hno⟩ | ⟨i, s, hi, hsk, hlk⟩
              · have hk9 : k9 = false := by rw [← HK9.out, hlk]; rfl
                subst hk9
                have HNX : Hid (o.map (cntX fr to bf name (l.take (j + 1))) = o.map (cntX fr to bf name (l.take j))) := Lib.hid (cnts_none HG.out (.inr hno))
                clear hlk hno hmX hX
                rw [← HNX.out] at hoX
                go_wp2
                go_roundw
                case rel => exact ⟨j + 1, by omega, by go_num, hoX, hgX, hbX9⟩
                case measure => simp [intOf]; omega
              · have hk9 : k9 = true := by rw [← HK9.out, hlk]; rfl
                subst hk9
                obtain rfl : z9 = (i : Int) := by rw [← HZ9.out, hlk]; rfl
                obtain ⟨⟨hst0, hst1⟩, hcn0⟩ := HOT.out s (List.mem_of_getElem? hi)
                have hil : i < o.length := (List.getElem?_eq_some_iff.1 hi).1
                obtain ⟨g, cap, hgv, hgB⟩ := own_form hoX (by omega)
                obtain rfl : p = some ⟨g, 0, none⟩ := by injection hgv
                obtain rfl : cS = cap := by injection hgv
                clear hgv
                have hgB2 := HEB.out g rfl
                have hgP2 := HPB.out g rfl
                obtain ⟨U, hU⟩ : ∃ z, o.map (cntX fr to bf name (l.take j)) = z := ⟨_, rfl⟩
                obtain ⟨y, hy⟩ : ∃ z, cntX fr to bf name (l.take j) s = z := ⟨_, rfl⟩
                have hUi : U[i]? = some y := by rw [← hU, ← hy, List.getElem?_map, hi]; rfl
                have hUl : i < U.length := (List.getElem?_eq_some_iff.1 hUi).1
                have HONE : Hid (o.map (cntX fr to bf name (l.take (j + 1))) = U.set i (cntS fr to bf y e)) := Lib.hid (by rw [← hU, ← hy]; exact cnts_one HG.out HA.out hi HOY.out hsk)
                have hyt : y.time = s.time := by rw [← hy]; exact (cntX_same fr to bf name (l.take j) s).2.1
                have hyb : CntB 20000 y := by
                  rw [← hy]
                  have h9 := (hcn0.fold (fr := fr) (to := to) (bf := bf) (outsK name (l.take j) s.key) (fun e he => by
                    obtain ⟨h1, h2, _⟩ := outsK_mem he
                    exact checkE_n (HCK.out e (List.mem_of_mem_take h1)) h2) (outsK name (l.take j) s.key).length (Nat.le_refl _))
                  rw [List.take_length] at h9
                  exact h9.mono (Nat.le_trans (outsK_len _ _ _) (by rw [List.length_take]; omega))
                rw [hU] at hoX
                have hor : SR X w0.heap.size g cS o.length (U.set i y) := by rw [set_self hUi]; exact hoX
                have hgX' : w1.grownBy X (some g) := hgX
                obtain ⟨hyc, hyu, hye, hyv⟩ := hyb
                obtain ⟨hen0, hen1⟩ := HEN.out
                have hyc2 : 0 ≤ y.count ∧ y.count ≤ 20000 := by omega
                have hyu2 : -20000000000000000 ≤ y.sum ∧ y.sum ≤ 20000000000000000 := by omega
                have hye2 : 0 ≤ y.early ∧ y.early ≤ 20000 := by omega
                have hyv2 : -20000000000000000 ≤ y.earlySum ∧ y.earlySum ≤ 20000000000000000 := by omega
                have hi0 : (0 : Int) ≤ (i : Int) := Int.natCast_nonneg _
                have hi1 : (i : Int) < (o.length : Int) := by omega
                obtain ⟨⟨c0, c1, c3, c4, c5, c6⟩, ⟨f3, f4, f5, f6⟩, -, -⟩ := hor.cells hUl
                rw [hyt] at c1
                clear hoX hgX hyc hyu hye hyv hU hy hUi hlk hsk hi hmX
                obtain ⟨d, hd⟩ : ∃ d, e.time - s.time = d := ⟨_, rfl⟩
                have hwd : IntKind.i64.wrap (e.time - s.time) = d := by rw [IntKind.wrap_i64]; omega
                have hdb : -4000000000 ≤ d ∧ d ≤ 4000000000 := by omega
                have HDY : Hid (e.time - y.time = d) := Lib.hid (by rw [hyt]; exact hd)
                clear hd
                go_upto_region 13 with (fail)
                go_wp2_with fail
                go_region
                have hoD : SR X.drew w0.heap.size g cS o.length (U.set i y) := hor
                have hgD := grown_drew hgX'
                have hbD := hbX9.drew
                have hXD : Box X.drew wr.heap.size (evC e) := hX
                clear c0 c1 c3 c4 c5 c6 f3 f4 f5 f6 g0 g1 g2 g3 g4 g5 g6 g7 hor hgX' hbX9 hX hwd
                generalize X.drew = Y at hoD hgD hbD hXD ⊢
                obtain ⟨⟨c0, c1, c3, c4, c5, c6⟩, ⟨f3, f4, f5, f6⟩, -, -⟩ := hoD.cells hUl
                obtain ⟨g0, g1, g2, g3, g4, g5, g6, g7⟩ := box_ev hXD
                clear hXD
                by_cases hin : fr ≤ d ∧ d < to
                · have HNX : Hid (o.map (cntX fr to bf name (l.take (j + 1))) = U.set i { y with count := y.count + 1, sum := y.sum + e.n }) := Lib.hid (by rw [HONE.out, cntS_in (by rw [HDY.out]; exact hin)])
                  have hd1 : decide (fr ≤ d) = true := decide_eq_true hin.1
                  have hd2 : decide (d < to) = true := decide_eq_true hin.2
                  have hoZ0 := (hoD.put hUl (s' := { y with count := y.count + 1 }) 3 (.int .i64 (y.count + 1)) (by decide) rfl).put hUl (s' := { y with count := y.count + 1, sum := y.sum + e.n }) 4 (.int .i64 (y.sum + e.n)) (by decide) rfl
                  rw [← HNX.out] at hoZ0
                  have hgZ0 := grown_drew (grown_set (grown_set hgD (i * 8 + 3) (.int .i64 (y.count + 1))) (i * 8 + 4) (.int .i64 (y.sum + e.n)))
                  have hbZ0 := ((hbD.setCell (p := ⟨g, i * 8 + 3, none⟩) hgB (.int .i64 (y.count + 1))).setCell (p := ⟨g, i * 8 + 4, none⟩) hgB (.int .i64 (y.sum + e.n))).drew
                  go_upto_region 15 with (fail)
                  go_region
                  clear c0 c1 c3 c4 c5 c6 f3 f4 f5 f6 g0 g1 g2 g3 g4 g5 g6 g7
                  have hoZ : ((Y.setCell ⟨g, i * 8 + 3, none⟩ (.int .i64 (y.count + 1))).setCell ⟨g, i * 8 + 4, none⟩ (.int .i64 (y.sum + e.n))).drew.ownsRow w0.heap.size 32 8 (.slice (some ⟨g, 0, none⟩) o.length cS) o.length ((o.map (cntX fr to bf name (l.take (j + 1)))).flatMap sbL) := hoZ0
                  have hgZ : w1.grownBy ((Y.setCell ⟨g, i * 8 + 3, none⟩ (.int .i64 (y.count + 1))).setCell ⟨g, i * 8 + 4, none⟩ (.int .i64 (y.sum + e.n))).drew (some g) := hgZ0
                  have hbZ : Below w0.heap.size w0 ((Y.setCell ⟨g, i * 8 + 3, none⟩ (.int .i64 (y.count + 1))).setCell ⟨g, i * 8 + 4, none⟩ (.int .i64 (y.sum + e.n))).drew := hbZ0
                  clear hoZ0 hgZ0 hbZ0 hoD hgD hbD
                  generalize ((Y.setCell ⟨g, i * 8 + 3, none⟩ (.int .i64 (y.count + 1))).setCell ⟨g, i * 8 + 4, none⟩ (.int .i64 (y.sum + e.n))).drew = Z at hoZ hgZ hbZ ⊢
                  go_wp2
                  exact ⟨⟨j + 1, by omega, by go_num, hoZ, hgZ, hbZ⟩, by simp [intOf]; omega⟩
                · by_cases hea : d < 0 ∧ -bf ≤ d
                  · have HNX : Hid (o.map (cntX fr to bf name (l.take (j + 1))) = U.set i { y with early := y.early + 1, earlySum := y.earlySum + e.n }) := Lib.hid (by rw [HONE.out, cntS_early (by rw [HDY.out]; exact hin) (by rw [HDY.out]; exact hea)])
                    have hd1 : decide (fr ≤ d) = false := decide_eq_false (by omega)
                    have hd2 : decide (d < 0) = true := decide_eq_true hea.1
                    have hd3 : decide (-bf ≤ d) = true := decide_eq_true hea.2
                    have hoZ0 := (hoD.put hUl (s' := { y with early := y.early + 1 }) 5 (.int .i64 (y.early + 1)) (by decide) rfl).put hUl (s' := { y with early := y.early + 1, earlySum := y.earlySum + e.n }) 6 (.int .i64 (y.earlySum + e.n)) (by decide) rfl
                    rw [← HNX.out] at hoZ0
                    have hgZ0 := grown_drew (grown_set (grown_set hgD (i * 8 + 5) (.int .i64 (y.early + 1))) (i * 8 + 6) (.int .i64 (y.earlySum + e.n)))
                    have hbZ0 := ((hbD.setCell (p := ⟨g, i * 8 + 5, none⟩) hgB (.int .i64 (y.early + 1))).setCell (p := ⟨g, i * 8 + 6, none⟩) hgB (.int .i64 (y.earlySum + e.n))).drew
                    go_upto_region 17 with (fail)
                    go_region
                    clear c0 c1 c3 c4 c5 c6 f3 f4 f5 f6 g0 g1 g2 g3 g4 g5 g6 g7
                    have hoZ : ((Y.setCell ⟨g, i * 8 + 5, none⟩ (.int .i64 (y.early + 1))).setCell ⟨g, i * 8 + 6, none⟩ (.int .i64 (y.earlySum + e.n))).drew.ownsRow w0.heap.size 32 8 (.slice (some ⟨g, 0, none⟩) o.length cS) o.length ((o.map (cntX fr to bf name (l.take (j + 1)))).flatMap sbL) := hoZ0
                    have hgZ : w1.grownBy ((Y.setCell ⟨g, i * 8 + 5, none⟩ (.int .i64 (y.early + 1))).setCell ⟨g, i * 8 + 6, none⟩ (.int .i64 (y.earlySum + e.n))).drew (some g) := hgZ0
                    have hbZ : Below w0.heap.size w0 ((Y.setCell ⟨g, i * 8 + 5, none⟩ (.int .i64 (y.early + 1))).setCell ⟨g, i * 8 + 6, none⟩ (.int .i64 (y.earlySum + e.n))).drew := hbZ0
                    clear hoZ0 hgZ0 hbZ0 hoD hgD hbD
                    generalize ((Y.setCell ⟨g, i * 8 + 5, none⟩ (.int .i64 (y.early + 1))).setCell ⟨g, i * 8 + 6, none⟩ (.int .i64 (y.earlySum + e.n))).drew = Z at hoZ hgZ hbZ ⊢
                    go_wp2
                    exact ⟨⟨j + 1, by omega, by go_num, hoZ, hgZ, hbZ⟩, by simp [intOf]; omega⟩
                  · have HNX : Hid (o.map (cntX fr to bf name (l.take (j + 1))) = U.set i y) := Lib.hid (by rw [HONE.out, cntS_out (by rw [HDY.out]; exact hin) (by rw [HDY.out]; exact hea)])
                    by_cases hq1 : fr ≤ d
                    · have hd1 : decide (fr ≤ d) = true := decide_eq_true hq1
                      have hd2 : decide (d < to) = false := decide_eq_false (by omega)
                      have hd3 : decide (d < 0) = false := decide_eq_false (by omega)
                      rw [← HNX.out] at hoD
                      clear c0 c1 c3 c4 c5 c6 f3 f4 f5 f6 g0 g1 g2 g3 g4 g5 g6 g7
                      go_wp2
                      exact ⟨⟨j + 1, by omega, by go_num, hoD, hgD, hbD⟩, by simp [intOf]; omega⟩
                    · have hd1 : decide (fr ≤ d) = false := decide_eq_false hq1
                      by_cases hq2 : d < 0
                      · have hd2 : decide (d < 0) = true := decide_eq_true hq2
                        have hd3 : decide (-bf ≤ d) = false := decide_eq_false (by omega)
                        rw [← HNX.out] at hoD
                        clear c0 c1 c3 c4 c5 c6 f3 f4 f5 f6 g0 g1 g2 g3 g4 g5 g6 g7
                        go_wp2
                        exact ⟨⟨j + 1, by omega, by go_num, hoD, hgD, hbD⟩, by simp [intOf]; omega⟩
                      · have hd2 : decide (d < 0) = false := decide_eq_false hq2
                        rw [← HNX.out] at hoD
                        clear c0 c1 c3 c4 c5 c6 f3 f4 f5 f6 g0 g1 g2 g3 g4 g5 g6 g7
                        go_wp2
                        exact ⟨⟨j + 1, by omega, by go_num, hoD, hgD, hbD⟩, by simp [intOf]; omega⟩
            · have HNX : Hid (o.map (cntX fr to bf name (l.take (j + 1))) = o.map (cntX fr to bf name (l.take j))) := Lib.hid (cnts_none HG.out (.inl (out_no (fun h => hnx h.2))))
              have hnb : (e.name.toList == name.toList) = false := by rw [beq_eq_false_iff_ne, ByteArray.toList_eq, ByteArray.toList_eq]; exact fun h => hnx (bytes_ext h)
              have hnb2 : ¬ (e.name.toList = name.toList) := by rw [ByteArray.toList_eq, ByteArray.toList_eq]; exact fun h => hnx (bytes_ext h)
              clear hnx hkd hmX hX
              rw [← HNX.out] at hoX
              go_wp2
              go_roundw
              case rel => exact ⟨j + 1, by omega, by go_num, hoX, hgX, hbX9⟩
              case measure => simp [intOf]; omega
          · have HNX : Hid (o.map (cntX fr to bf name (l.take (j + 1))) = o.map (cntX fr to bf name (l.take j))) := Lib.hid (cnts_none HG.out (.inl (out_no (fun h => hkd h.1))))
            have hkb : (e.kind != 2) = true := by simpa using hkd
            clear hkd hmX hX
            rw [← HNX.out] at hoX
            go_wp2
            go_roundw
            case rel => exact ⟨j + 1, by omega, by go_num, hoX, hgX, hbX9⟩
            case measure => simp [intOf]; omega
        · have HOQ : Hid (wr.ownsRow w0.heap.size 32 8 (.slice p o.length cS) o.length ((o.map (cntX fr to bf name l)).flatMap sbL)) := Lib.hid (by rw [List.take_of_length_le (by omega)] at hoQ; exact hoQ)
          have hgz := grown_trans hgR hgQ
          clear hoQ hgQ
          go_wp2
          go_ret
          exact ⟨rfl, HOQ.out, hbQ, hgz⟩
end Ex
end Go.Proofs.Ytacchooggifnhaa
