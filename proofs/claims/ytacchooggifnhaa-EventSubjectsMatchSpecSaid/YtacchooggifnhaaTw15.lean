/- sooner, exposed of the reference. Printed by gen_rexp.py. -/
import Derived.Test.YtacchooggifnhaaTw14
import Derived.Test.YtacchooggifnhaaTw07
import Derived.Test.YtacchooggifnhaaTw02
import Derived.Deep.Cut
namespace Go.Proofs.Ytacchooggifnhaa
open Go.RowKit Go.ChangeMaps
namespace Ex
theorem own_base {w : World} {base B e size n : Nat} {v : Value} {xs : List Value} (h : w.ownsRow base e size v n xs) (hB : B ≤ base) : w.ownsRow B e size v n xs := by
  obtain ⟨h1, ⟨rfl, h2⟩ | ⟨g, cap, cur, rfl, hb, hg, hn, hm, hs, ht⟩⟩ := h
  · exact ⟨h1, .inl ⟨rfl, h2⟩⟩
  · exact ⟨h1, .inr ⟨g, cap, cur, rfl, Nat.le_trans hB hb, hg, hn, hm, hs, ht⟩⟩
theorem box_grown {w w' : World} {b : Nat} {A : Array Value} {row : Option Nat} (h : Box w b A) (hg : w.grownBy w' row) (hr : row ≠ some b) : Box w' b A := by
  refine ⟨Nat.lt_of_lt_of_le h.1 hg.size, fun j => ?_⟩
  rw [← h.2 j]
  simp only [World.cell?, hg.block b h.1 (fun e => hr e.symm)]
theorem wpList_evt {P : Program} {w : World} {ops : Array Oper} {rest : List Oper} {o : Oper} {a : Act} {Q : Exit → Act → World → Prop} (hg : o.guard = none) (m x : Operand) (t : TypeId) (hop : o.op = Op.lookup t m x false)
    {K E : TypeId} (ko : KeyOk P K Value.string) (ht : P.underlying t = some (.map K E)) {z : Value} (hz : (zeroValue E).run P w = .ok z w) {b : Nat} {F : Fst}
    (hm : a.eval m = .map (some b)) (h : MapIs Value.string evV w b F) (y : ByteArray) (hx : a.eval x = .string y) (e : Ev) (hl : look F y = some e)
    (hK : wpList P ops Q rest (a.put o.dst (.agg (evC e))) w) : wpList P ops Q (o :: rest) a w := by
  refine wpList_lookup_a hg m x t false hop ko ht hz hm h y hx ?_
  rw [if_neg (by decide), hl]; exact hK
theorem st_cell {w : World} {a : Option Addr} {n c k : Nat} {l : List ByteArray} {x : ByteArray} (s : Sl w (.slice a n c) n (l.map Value.string)) (h : l[k]? = some x) : ∃ b o, a = some ⟨b, o, none⟩ ∧ w.cell? ⟨b, o + k, none⟩ = some (.string x) := by
  obtain ⟨a', cap, hv, _, _, _, h3⟩ := s
  cases hv
  obtain ⟨b, o, rfl, hc⟩ := h3 k (.string x) (by rw [List.getElem?_map, h]; rfl)
  exact ⟨b, o, rfl, hc⟩
theorem fld_ev3 (v0 v1 v2 v4 v5 v6 v7 : Value) (t : Int) (w : World) : (Instr.field 42 (.agg #[v0, v1, v2, .int .i64 t, v4, v5, v6, v7]) 3).run Try.prog w = .ok (.int .i64 t) w := by kernel_rfl
theorem fld_ev6 (v0 v1 v2 v3 v4 v5 v7 : Value) (t : Int) (w : World) : (Instr.field 42 (.agg #[v0, v1, v2, v3, v4, v5, .int .i64 t, v7]) 6).run Try.prog w = .ok (.int .i64 t) w := by kernel_rfl
set_option maxRecDepth 100000 in
set_option maxHeartbeats 16000000 in
theorem sooner_at (p q : Ev) (w : World) : Calls Try.prog 61 #[.agg (evC p), .agg (evC q)] w fun e w' => e = .returned (.bool (soonB p q)) ∧ Below w.heap.size w w' := by
  rcases Int.lt_trichotomy p.time q.time with h | h | h
  · have hs : soonB p q = true := by unfold soonB; rw [decide_eq_true h]; rfl
    rw [hs]
    clear hs
    go_enter Try.func61, Try.ntmps61
    go_wp2
    go_ret
    exact ⟨rfl, by go_grown⟩
  · have hs : soonB p q = decide (ordE p q < 0) := by unfold soonB; rw [decide_eq_false (show ¬ p.time < q.time by omega), decide_eq_true h]; rfl
    rw [hs]
    have h1 : decide (p.time < q.time) = false := decide_eq_false (by omega)
    have h2 : (p.time == q.time) = true := by simpa using h
    obtain ⟨z, hz⟩ : ∃ z, decide (ordE p q < 0) = z := ⟨_, rfl⟩
    have HC := Lib.hid (fun W => (by have h9 := ref7_ahead p q W; rw [hz] at h9; exact h9 : Calls Try.prog 57 #[.agg (evC p), .agg (evC q)] W fun e w' => e = .returned (.bool z) ∧ Below W.heap.size W w'))
    rw [hz]
    clear hs hz h
    go_enter Try.func61, Try.ntmps61
    go_upto_region 1 with (fail)
    refine wp_box2 fun W hsz hbW hA hB => ?_
    obtain ⟨g0, g1, g2, g3, g4, g5, g6, g7⟩ := box_ev hA
    obtain ⟨f0, f1, f2, f3, f4, f5, f6, f7⟩ := box_ev hB
    clear hA hB
    go_wp2_with fail
    refine (HC.out W).mono ?_
    rintro e w3 ⟨rfl, hb3⟩
    have hb4 := ext_trans hbW hb3
    clear hb3 hbW
    go_wp2
    go_ret
    exact ⟨rfl, hb4⟩
  · have hs : soonB p q = false := by unfold soonB; rw [decide_eq_false (show ¬ p.time < q.time by omega), decide_eq_false (show ¬ p.time = q.time by omega)]; rfl
    rw [hs]
    have h1 : decide (p.time < q.time) = false := decide_eq_false (by omega)
    have h2 : (p.time == q.time) = false := beq_eq_false_iff_ne.2 (by omega)
    clear hs h
    go_enter Try.func61, Try.ntmps61
    go_wp2
    go_ret
    exact ⟨rfl, by go_grown⟩
set_option maxRecDepth 100000 in
set_option maxHeartbeats 16000000 in
theorem refExposed_at (l : List Ev) (x : ByteArray) (a : Option Addr) (c : Nat) (w : World) (hc : checkL l = 0) (hs : Sl w (.slice a l.length c) l.length (l.flatMap evL)) : Calls Try.prog 36 #[.slice a l.length c, .string x] w (ExpPost x l w) := by
  have hl := hs.len_le
  have h20 := checkL_len hc
  have HASC := Lib.hid (checkL_asc hc)
  have HS := Lib.hid hs
  have hmm := @run_makeMap Try.prog
  clear hs hc
  go_enter Try.func36, Try.ntmps36
  go_upto_region 2 with (fail)
  refine wp_mapNew Value.string evV fun W1 hbW1 hmW1 => ?_
  go_upto_region 3 with (fail)
  refine wp_mapNew Value.string Value.bool fun W2 hbW2 hmW2 => ?_
  have hmF0 := hmW1.ext hbW2
  have hne : w.heap.size < W1.heap.size := hmW1.lt
  have hb0 := ext_trans hbW1 hbW2
  obtain ⟨mb, hmb⟩ : ∃ z, W1.heap.size = z := ⟨_, rfl⟩
  rw [hmb] at hmW2 hne ⊢
  clear hmm hbW1 hbW2 hmW1 hmb
  go_wp2
  go_loopw [8, 21] (fun v8 i wr => ∃ (k : Nat) (F : Fst) (M : Mix) (n1 : Nat), k ≤ l.length ∧ i = .int .i64 k ∧ Hid (expX x (l.take k) = (F, M)) ∧ Hid (F.length = n1) ∧ n1 ≤ k ∧ MapIs Value.string evV wr w.heap.size F ∧ MapIs Value.string Value.bool wr mb M ∧ wr.ownsRow w.heap.size 9 1 v8 n1 ((keysOf F).map Value.string) ∧ Below w.heap.size w wr) (fun _ i _ => l.length - (intOf i).toNat)
  case atStart => exact ⟨0, [], [], 0, by omega, rfl, rfl, rfl, by omega, hmF0, hmW2, World.ownsRow_nil _ _ _ _, hb0⟩
  case round =>
    clear hmF0 hmW2 hb0
    obtain ⟨k, F, M, n1, hk, rfl, HST, HN1, hn1, hmF, hmB, hoK, hbr⟩ := hrel
    by_cases hlt : k < l.length
    · have hgk := List.getElem?_eq_getElem hlt
      generalize l[k] = s at hgk
      have HT := Lib.hid (expX_take (x := x) hgk)
      have HG := Lib.hid hgk
      obtain ⟨b, o, rfl, e0, e1, e2, e3, e4, e5, e6, e7⟩ := ev_cells (HS.out.ext hbr) hgk
      have hk0 : (0 : Int) ≤ (k : Int) := Int.natCast_nonneg _
      have hk1 : (k : Int) < (l.length : Int) := by omega
      have HNE : Hid (u8.ownBlock ≠ some wr.heap.size) := Lib.hid (fun e9 => by have := (hoK.lt _ e9).2; omega)
      clear hgk
      go_upto_region 7 with (fail)
      clear e0 e1 e2 e3 e4 e5 e6 e7
      refine wp_box1 fun X hszX hbX hX => ?_
      replace hmF := hmF.ext hbX
      replace hmB := hmB.ext hbX
      replace hoK := ownsRow_ext hoK hbX
      replace hbr := hbr.trans (hbX.mono hbr.size)
      obtain ⟨g0, g1, g2, g3, g4, g5, g6, g7⟩ := box_ev hX
      clear hbX hszX
      by_cases hkd : s.kind = 1
      · by_cases hnx : s.name = x
        · have HEX := Lib.hid (isExp_yes hkd hnx)
          have hkb : (s.kind != 1) = false := by simpa using hkd
          have hnb : (s.name.toList == x.toList) = true := by rw [hnx]; simp
          have hnb2 : s.name.toList = x.toList := by rw [hnx]
          clear hkd hnx
          cases hlk : look F s.key with
          | none =>
            go_upto_region 9 with (at_lookup; refine wpList_lookup_miss rfl _ _ 77 rfl str_ok Try.underlying77 (zero_evt _) rfl hmF s.key rfl hlk ?_)
            clear g0 g1 g2 g3 g4 g5 g6 g7
            refine wp_box1 fun Z hszZ hbZ hZ => ?_
            replace hmF := hmF.ext hbZ
            replace hmB := hmB.ext hbZ
            replace hoK := ownsRow_ext hoK hbZ
            replace hbr := hbr.trans (hbZ.mono hbr.size)
            replace hX := hX.ext hbZ
            obtain ⟨g0, g1, g2, g3, g4, g5, g6, g7⟩ := box_ev hX
            clear hbZ hszZ
            have HN := Lib.hid (step_new (x := x) (F := F) (M := M) HEX.out hlk)
            have HKN := Lib.hid (keys_new (e := s) hlk)
            clear hlk hZ
            have hone : ∀ u ∈ ([Value.string s.key] : List Value), u.oneCell' = true := by intro u hu; simp at hu; subst hu; rfl
            go_upto_region 11 with (at_builtin; refine wpList_append_sl rfl _ _ 28 rfl w.heap.size 9 Try.underlying28 strE_info rfl (by decide) rfl (ownsRow_ext hoK (ext_alloc _ _)) rfl (Sl.new Z #[.string s.key] _ 1 1 (by omega) (by decide)) rfl hone (by unfold maxLen; omega) (by omega) (by have := hbr.size; simp; omega) ?_; intro v7 w7 hown7 hg7 _)
            have hoA := ownsRow_ext hoK (ext_alloc Z (.cells #[.string s.key] 9))
            have hFA := hmF.ext (ext_alloc Z (.cells #[.string s.key] 9))
            have hBA := hmB.ext (ext_alloc Z (.cells #[.string s.key] 9))
            have hXA := hX.ext (ext_alloc Z (.cells #[.string s.key] 9))
            have hF7 := hFA.grown hg7 (own_ne_map hoA hFA)
            have hB7 := hBA.grown hg7 (own_ne_map hoA hBA)
            have hX7 := box_grown hXA hg7 HNE.out
            have hb7 : Below w.heap.size w w7 := (hbr.trans ((ext_alloc Z (.cells #[.string s.key] 9)).mono hbr.size)).grown hg7 (by have := hbr.size; simp; omega) (fun q hq => (hoA.lt q hq).1)
            have hoK7 : w7.ownsRow w.heap.size 9 1 v7 (n1 + 1) ((keysOf (putL F s.key s)).map Value.string) := by rw [HKN.out, List.map_append]; exact hown7
            clear hmF hmB hX hbr hoK hoA hFA hBA hXA hown7 hg7 g0 g1 g2 g3 g4 g5 g6 g7
            obtain ⟨g0, g1, g2, g3, g4, g5, g6, g7⟩ := box_ev hX7
            have hmF := hF7
            have hmB := hB7
            have hX := hX7
            have hbr := hb7
            have hoK := hoK7
            clear hF7 hB7 hX7 hb7 hoK7 HNE
            go_upto_region 15 with (at_mapUpdate; refine wpList_update_a rfl _ _ _ 77 rfl str_ok Try.underlying77 rfl hmF s.key rfl s rfl ?_; intro w6 hm6 ht6)
            have hmB6 := turned_other hmB ht6 (by omega)
            have hb6 := hbr.trans (turned_below ht6 (Nat.le_refl _))
            have hoK6 := ownsRow_turned hoK ht6
            clear hmF hmB hbr hoK hX ht6 g0 g1 g2 g3 g4 g5 g6 g7
            have hmF := hm6
            have hmB := hmB6
            have hbr := hb6
            have hoK := hoK6
            clear hm6 hmB6 hb6 hoK6
            go_wp2
            go_roundw
            case rel => exact ⟨k + 1, putL F s.key s, M, n1 + 1, by omega, by go_num, Lib.hid (by rw [HT.out]; exact (congrArg (fun st => stepX x st s) HST.out).trans HN.out), Lib.hid (by rw [← keys_len, HKN.out, List.length_append, keys_len, HN1.out]; rfl), by omega, hmF, hmB, hoK, hbr⟩
            case measure => simp [intOf]; omega
          | some o =>
            go_upto_region 9 with (at_lookup; refine wpList_lookup_hit rfl _ _ 77 rfl str_ok Try.underlying77 (zero_evt _) rfl hmF s.key rfl o hlk ?_)
            clear g0 g1 g2 g3 g4 g5 g6 g7
            refine wp_box1 fun Z hszZ hbZ hZ => ?_
            replace hmF := hmF.ext hbZ
            replace hmB := hmB.ext hbZ
            replace hoK := ownsRow_ext hoK hbZ
            replace hbr := hbr.trans (hbZ.mono hbr.size)
            replace hX := hX.ext hbZ
            obtain ⟨g0, g1, g2, g3, g4, g5, g6, g7⟩ := box_ev hX
            clear hbZ hszZ
            obtain ⟨f0, f1, f2, f3, f4, f5, f6, f7⟩ := box_ev hZ
            have HN := Lib.hid (step_old (x := x) (F := F) (M := M) HEX.out hlk)
            have HKO := Lib.hid (keys_old (e := s) hlk)
            have HORD : Hid (ordE o s < 0) := Lib.hid (asc_before HASC.out HG.out (look_first HST.out hlk))
            clear hlk HNE
            by_cases ha : o.arm = s.arm
            · have hane : (o.arm != s.arm) = false := by simpa using ha
              have HA := Lib.hid ha
              clear ha
              by_cases ht : s.time < o.time
              · have HN2 : Hid (stepX x (F, M) s = (putL F s.key s, M)) := Lib.hid (HN.out.trans (by rw [if_pos ht, if_neg (by rw [HA.out]; simp)]))
                have HSN := Lib.hid (fun W => (by have h9 := sooner_at s o W; rw [soon_is HORD.out, decide_eq_true ht] at h9; exact h9 : Calls Try.prog 61 #[.agg (evC s), .agg (evC o)] W fun e w' => e = .returned (.bool true) ∧ Below W.heap.size W w'))
                clear HN ht
                go_wp2_with fail
                refine (HSN.out _).mono ?_
                rintro e w8 ⟨rfl, hb8⟩
                replace hmF := hmF.ext hb8
                replace hmB := hmB.ext hb8
                replace hoK := ownsRow_ext hoK hb8
                replace hbr := hbr.trans (hb8.mono hbr.size)
                replace hX := hX.ext hb8
                clear g0 g1 g2 g3 g4 g5 g6 g7 f0 f1 f2 f3 f4 f5 f6 f7 hZ hb8
                obtain ⟨g0, g1, g2, g3, g4, g5, g6, g7⟩ := box_ev hX
                go_upto_region 15 with (at_mapUpdate; refine wpList_update_a rfl _ _ _ 77 rfl str_ok Try.underlying77 rfl hmF s.key rfl s rfl ?_; intro w6 hm6 ht6)
                have hmB6 := turned_other hmB ht6 (by omega)
                have hb6 := hbr.trans (turned_below ht6 (Nat.le_refl _))
                have hoK6 := ownsRow_turned hoK ht6
                clear hmF hmB hbr hoK hX ht6 g0 g1 g2 g3 g4 g5 g6 g7
                have hmF := hm6
                have hmB := hmB6
                have hbr := hb6
                have hoK := hoK6
                clear hm6 hmB6 hb6 hoK6
                rw [← HKO.out] at hoK
                go_wp2
                go_roundw
                case rel => exact ⟨k + 1, putL F s.key s, M, n1, by omega, by go_num, Lib.hid (by rw [HT.out]; exact (congrArg (fun st => stepX x st s) HST.out).trans HN2.out), Lib.hid (by rw [← keys_len, HKO.out, keys_len]; exact HN1.out), by omega, hmF, hmB, hoK, hbr⟩
                case measure => simp [intOf]; omega
              · have HN2 : Hid (stepX x (F, M) s = (F, M)) := Lib.hid (HN.out.trans (by rw [if_neg ht, if_neg (by rw [HA.out]; simp)]))
                have HSN := Lib.hid (fun W => (by have h9 := sooner_at s o W; rw [soon_is HORD.out, decide_eq_false ht] at h9; exact h9 : Calls Try.prog 61 #[.agg (evC s), .agg (evC o)] W fun e w' => e = .returned (.bool false) ∧ Below W.heap.size W w'))
                clear HN ht
                go_wp2_with fail
                refine (HSN.out _).mono ?_
                rintro e w8 ⟨rfl, hb8⟩
                replace hmF := hmF.ext hb8
                replace hmB := hmB.ext hb8
                replace hoK := ownsRow_ext hoK hb8
                replace hbr := hbr.trans (hb8.mono hbr.size)
                replace hX := hX.ext hb8
                clear g0 g1 g2 g3 g4 g5 g6 g7 f0 f1 f2 f3 f4 f5 f6 f7 hZ hb8
                obtain ⟨g0, g1, g2, g3, g4, g5, g6, g7⟩ := box_ev hX
                go_wp2
                go_roundw
                case rel => exact ⟨k + 1, F, M, n1, by omega, by go_num, Lib.hid (by rw [HT.out]; exact (congrArg (fun st => stepX x st s) HST.out).trans HN2.out), HN1, by omega, hmF, hmB, hoK, hbr⟩
                case measure => simp [intOf]; omega
            · have hane : (o.arm != s.arm) = true := by simpa using ha
              have HA := Lib.hid ha
              clear ha
              go_upto_region 13 with (at_mapUpdate; refine wpList_update_a rfl _ _ _ 78 rfl str_ok Try.underlying78 rfl hmB s.key rfl true rfl ?_; intro w5 hm5 ht5)
              have hmF5 := turned_other hmF ht5 (by omega)
              have hb5 := hbr.trans (turned_below ht5 (by omega))
              have hX5 := box_turned hX ht5
              have hZ5 := box_turned hZ ht5
              have hoK5 := ownsRow_turned hoK ht5
              clear hmF hmB hbr hX hZ hoK ht5 g0 g1 g2 g3 g4 g5 g6 g7 f0 f1 f2 f3 f4 f5 f6 f7
              rename_i _
              have hmF := hmF5
              have hmB := hm5
              have hbr := hb5
              have hX := hX5
              have hZ := hZ5
              have hoK := hoK5
              clear hmF5 hm5 hb5 hX5 hZ5 hoK5
              obtain ⟨g0, g1, g2, g3, g4, g5, g6, g7⟩ := box_ev hX
              obtain ⟨f0, f1, f2, f3, f4, f5, f6, f7⟩ := box_ev hZ
              by_cases ht : s.time < o.time
              · have HN2 : Hid (stepX x (F, M) s = (putL F s.key s, putL M s.key true)) := Lib.hid (HN.out.trans (by rw [if_pos ht, if_pos HA.out]))
                have HSN := Lib.hid (fun W => (by have h9 := sooner_at s o W; rw [soon_is HORD.out, decide_eq_true ht] at h9; exact h9 : Calls Try.prog 61 #[.agg (evC s), .agg (evC o)] W fun e w' => e = .returned (.bool true) ∧ Below W.heap.size W w'))
                clear HN ht
                go_wp2_with fail
                refine (HSN.out _).mono ?_
                rintro e w8 ⟨rfl, hb8⟩
                replace hmF := hmF.ext hb8
                replace hmB := hmB.ext hb8
                replace hoK := ownsRow_ext hoK hb8
                replace hbr := hbr.trans (hb8.mono hbr.size)
                replace hX := hX.ext hb8
                clear g0 g1 g2 g3 g4 g5 g6 g7 f0 f1 f2 f3 f4 f5 f6 f7 hZ hb8
                obtain ⟨g0, g1, g2, g3, g4, g5, g6, g7⟩ := box_ev hX
                go_upto_region 15 with (at_mapUpdate; refine wpList_update_a rfl _ _ _ 77 rfl str_ok Try.underlying77 rfl hmF s.key rfl s rfl ?_; intro w6 hm6 ht6)
                have hmB6 := turned_other hmB ht6 (by omega)
                have hb6 := hbr.trans (turned_below ht6 (Nat.le_refl _))
                have hoK6 := ownsRow_turned hoK ht6
                clear hmF hmB hbr hoK hX ht6 g0 g1 g2 g3 g4 g5 g6 g7
                have hmF := hm6
                have hmB := hmB6
                have hbr := hb6
                have hoK := hoK6
                clear hm6 hmB6 hb6 hoK6
                rw [← HKO.out] at hoK
                go_wp2
                go_roundw
                case rel => exact ⟨k + 1, putL F s.key s, putL M s.key true, n1, by omega, by go_num, Lib.hid (by rw [HT.out]; exact (congrArg (fun st => stepX x st s) HST.out).trans HN2.out), Lib.hid (by rw [← keys_len, HKO.out, keys_len]; exact HN1.out), by omega, hmF, hmB, hoK, hbr⟩
                case measure => simp [intOf]; omega
              · have HN2 : Hid (stepX x (F, M) s = (F, putL M s.key true)) := Lib.hid (HN.out.trans (by rw [if_neg ht, if_pos HA.out]))
                have HSN := Lib.hid (fun W => (by have h9 := sooner_at s o W; rw [soon_is HORD.out, decide_eq_false ht] at h9; exact h9 : Calls Try.prog 61 #[.agg (evC s), .agg (evC o)] W fun e w' => e = .returned (.bool false) ∧ Below W.heap.size W w'))
                clear HN ht
                go_wp2_with fail
                refine (HSN.out _).mono ?_
                rintro e w8 ⟨rfl, hb8⟩
                replace hmF := hmF.ext hb8
                replace hmB := hmB.ext hb8
                replace hoK := ownsRow_ext hoK hb8
                replace hbr := hbr.trans (hb8.mono hbr.size)
                replace hX := hX.ext hb8
                clear g0 g1 g2 g3 g4 g5 g6 g7 f0 f1 f2 f3 f4 f5 f6 f7 hZ hb8
                obtain ⟨g0, g1, g2, g3, g4, g5, g6, g7⟩ := box_ev hX
                go_wp2
                go_roundw
                case rel => exact ⟨k + 1, F, putL M s.key true, n1, by omega, by go_num, Lib.hid (by rw [HT.out]; exact (congrArg (fun st => stepX x st s) HST.out).trans HN2.out), HN1, by omega, hmF, hmB, hoK, hbr⟩
                case measure => simp [intOf]; omega
        · have HNO := Lib.hid (step_no (st := (F, M)) (isExp_name (x := x) hnx))
          have hnb : (s.name.toList == x.toList) = false := by rw [beq_eq_false_iff_ne, ByteArray.toList_eq, ByteArray.toList_eq]; exact fun h => hnx (bytes_ext h)
          have hnb2 : ¬ (s.name.toList = x.toList) := by rw [ByteArray.toList_eq, ByteArray.toList_eq]; exact fun h => hnx (bytes_ext h)
          have hkb : (s.kind != 1) = false := by simpa using hkd
          clear hnx hkd HNE
          go_wp2
          go_roundw
          case rel => exact ⟨k + 1, F, M, n1, by omega, by go_num, Lib.hid (by rw [HT.out]; exact (congrArg (fun st => stepX x st s) HST.out).trans HNO.out), HN1, by omega, hmF, hmB, hoK, hbr⟩
          case measure => simp [intOf]; omega
      · have HNO := Lib.hid (step_no (st := (F, M)) (isExp_kind (x := x) hkd))
        have hkb : (s.kind != 1) = true := by simpa using hkd
        clear hkd HNE
        go_wp2
        go_roundw
        case rel => exact ⟨k + 1, F, M, n1, by omega, by go_num, Lib.hid (by rw [HT.out]; exact (congrArg (fun st => stepX x st s) HST.out).trans HNO.out), HN1, by omega, hmF, hmB, hoK, hbr⟩
        case measure => simp [intOf]; omega
    · have HST2 : Hid (expX x l = (F, M)) := Lib.hid (by have h9 := HST.out; rw [List.take_of_length_le (by omega)] at h9; exact h9)
      clear HST
      obtain ⟨gK, cK, rfl⟩ : ∃ a9 c9, u8 = .slice a9 n1 c9 := by
        rcases hoK.2 with ⟨rfl, h9⟩ | ⟨g, cap, cur, rfl, _⟩
        · exact ⟨none, 0, by rw [h9]⟩
        · exact ⟨_, _, rfl⟩
      obtain ⟨LK, hLK⟩ : ∃ z, keysOf F = z := ⟨_, rfl⟩
      have HL1 : LK.length = n1 := by rw [← hLK, keys_len]; exact HN1.out
      rw [hLK] at hoK
      have HLK := Lib.hid hLK
      subst HL1
      clear hLK HN1
      go_wp2_with fail
      refine (sortStr_at w.heap.size LK (by omega) _ wr hbr.size hoK).mono ?_
      rintro e w7 ⟨rfl, K', hp2, hs2, hK7, hg7⟩
      clear hlt
      have hb7 := hbr.grown hg7 hbr.size (fun q hq => (hoK.lt q hq).1)
      have hmF7 := hmF.grown hg7 (own_ne_map hoK hmF)
      have hmB7 := hmB.grown hg7 (own_ne_map hoK hmB)
      have hKL : LK.length = K'.length := hp2.length_eq.symm
      rw [hKL] at hK7 hn1 ⊢
      have HSK := Lib.hid (Sl.ofOwn hK7)
      have HPK : Hid (K'.Perm (keysOf F)) := Lib.hid (by rw [HLK.out]; exact hp2)
      have HRR : Hid (ExpR (expX x l).1 (expX x l).2 (outK F M K') (mixK M K')) := Lib.hid (by
        have hF := (first_ok x l).1
        rw [HST2.out] at hF ⊢
        exact expR_ref hF HPK.out hs2)
      have hsz7 := hb7.size
      have hK20 : K'.length ≤ 20000 := by omega
      clear hmF hmB hbr hoK hg7 hp2 hs2 hK7 hKL hk HST2 HLK hn1
      go_wp2
      go_loopw [13, 14, 75] (fun v13 v14 i wr2 => ∃ (k n1 n2 : Nat), k ≤ K'.length ∧ i = .int .i64 k ∧ Hid ((outK F M (K'.take k)).length = n1) ∧ Hid ((mixK M (K'.take k)).length = n2) ∧ n1 ≤ k ∧ n2 ≤ k ∧ wr2.ownsRow w7.heap.size 32 8 v13 n1 ((outK F M (K'.take k)).flatMap sbL) ∧ wr2.ownsRow w7.heap.size 9 1 v14 n2 ((mixK M (K'.take k)).map Value.string) ∧ Below w7.heap.size w7 wr2) (fun _ _ i _ => K'.length - (intOf i).toNat)
      case atStart => exact ⟨0, 0, 0, by omega, rfl, Lib.hid (by simp [outK]), Lib.hid (by simp [mixK]), by omega, by omega, World.ownsRow_nil _ _ _ _, World.ownsRow_nil _ _ _ _, Below.refl _ _⟩
      case round =>
        obtain ⟨k, n1, n2, hk, rfl, HN1, HN2, hn1, hn2, hoS, hoM, hbq⟩ := hrel
        by_cases hlt : k < K'.length
        · have hgk := List.getElem?_eq_getElem hlt
          generalize K'[k] = y at hgk
          have hyK : y ∈ keysOf F := HPK.out.mem_iff.1 (List.mem_of_getElem? hgk)
          obtain ⟨b, o, rfl, e0⟩ := st_cell (HSK.out.ext hbq) hgk
          have hk0 : (0 : Int) ≤ (k : Int) := Int.natCast_nonneg _
          have hk1 : (k : Int) < (K'.length : Int) := by omega
          have hmFq := hmF7.ext hbq
          have hmBq := hmB7.ext hbq
          have HMX : Hid (mixB M y = true ∨ mixB M y = false) := Lib.hid (by cases mixB M y <;> simp)
          obtain ⟨hle1, hle2⟩ := outK_le F M K' k
          rw [HN1.out] at hle1
          rw [HN2.out] at hle2
          rcases HMX.out with hmx | hmx
          · have HY := Lib.hid (outK_no (F := F) hgk hmx)
            have hone : ∀ u ∈ ([Value.string y] : List Value), u.oneCell' = true := by intro u hu; simp at hu; subst hu; rfl
            clear HMX hgk hyK
            go_wp2_with (first | (at_lookup; refine wpList_mix rfl _ _ 78 rfl str_ok Try.underlying78 (zero_bl _) rfl hmBq y rfl true hmx ?_) | (at_builtin; refine wpList_append_sl rfl _ _ 28 rfl w7.heap.size 9 Try.underlying28 strE_info rfl (by decide) rfl (ownsRow_ext hoM (ext_alloc _ _)) rfl (Sl.new wr #[.string y] _ 1 1 (by omega) (by decide)) rfl hone (by unfold maxLen; omega) (by omega) (by have := hbq.size; simp; omega) ?_; intro v9 w9 hown9 hg9 _))
            have hoA := ownsRow_ext hoM (ext_alloc wr (.cells #[.string y] 9))
            have hSA := ownsRow_ext hoS (ext_alloc wr (.cells #[.string y] 9))
            have hoS9 := hSA.kept hg9 (own_ne_own hSA hoA (by decide))
            have hb9 : Below w7.heap.size w7 w9 := (hbq.trans ((ext_alloc wr (.cells #[.string y] 9)).mono hbq.size)).grown hg9 (by have := hbq.size; simp; omega) (fun q hq => (hoA.lt q hq).1)
            have hoM8 : w9.ownsRow w7.heap.size 9 1 v9 (n2 + 1) ((mixK M (K'.take (k + 1))).map Value.string) := by rw [HY.out.2, List.map_append]; exact hown9
            have hoS8 : w9.ownsRow w7.heap.size 32 8 u13 n1 ((outK F M (K'.take (k + 1))).flatMap sbL) := by rw [HY.out.1]; exact hoS9
            have HN1' : Hid ((outK F M (K'.take (k + 1))).length = n1) := Lib.hid (by rw [HY.out.1]; exact HN1.out)
            have HN2' : Hid ((mixK M (K'.take (k + 1))).length = n2 + 1) := Lib.hid (by rw [HY.out.2, List.length_append, HN2.out]; rfl)
            clear hown9 hg9 hoA hSA hoS9 hmFq hmBq hbq hoS hoM hmx e0
            go_wp2
            go_roundw
            case rel => exact ⟨k + 1, n1, n2 + 1, by omega, by go_num, HN1', HN2', by omega, by omega, hoS8, hoM8, hb9⟩
            case measure => simp [intOf]; omega
          · have HY := Lib.hid (outK_yes (F := F) hgk hmx)
            obtain ⟨e, hle, hse⟩ := first_look hyK
            rw [hse] at HY
            have hone := sbL_one (subjOf (y, e))
            have hf3 := fld_ev3
            have hf6 := fld_ev6
            clear HMX hgk hyK hse
            go_wp2_with (first | (at_lookup; refine wpList_mix rfl _ _ 78 rfl str_ok Try.underlying78 (zero_bl _) rfl hmBq y rfl false hmx ?_) | (at_lookup; refine wpList_evt rfl _ _ 77 rfl str_ok Try.underlying77 (zero_evt _) rfl hmFq y rfl e hle ?_) | (at_builtin; refine wpList_append_sl rfl _ _ 27 rfl w7.heap.size 32 Try.underlying27 sbj_info rfl (by decide) rfl (ownsRow_ext hoS (ext_alloc _ _)) rfl (Sl.new wr (sbC (subjOf (y, e))) _ 1 1 (by omega) (by decide)) rfl hone (by unfold maxLen; omega) (by omega) (by have := hbq.size; simp; omega) ?_; intro v9 w9 hown9 hg9 _))
            have hoA := ownsRow_ext hoS (ext_alloc wr (.cells (sbC (subjOf (y, e))) 32))
            have hSA := ownsRow_ext hoM (ext_alloc wr (.cells (sbC (subjOf (y, e))) 32))
            have hoM9 := hSA.kept hg9 (own_ne_own hSA hoA (by decide))
            have hb9 : Below w7.heap.size w7 w9 := (hbq.trans ((ext_alloc wr (.cells (sbC (subjOf (y, e))) 32)).mono hbq.size)).grown hg9 (by have := hbq.size; simp; omega) (fun q hq => (hoA.lt q hq).1)
            have hoS8 : w9.ownsRow w7.heap.size 32 8 v9 (n1 + 1) ((outK F M (K'.take (k + 1))).flatMap sbL) := by
              rw [HY.out.1, List.flatMap_append, show ([subjOf (y, e)] : List Sbj).flatMap sbL = sbL (subjOf (y, e)) by simp]; exact hown9
            have hoM8 : w9.ownsRow w7.heap.size 9 1 u14 n2 ((mixK M (K'.take (k + 1))).map Value.string) := by rw [HY.out.2]; exact hoM9
            have HN1' : Hid ((outK F M (K'.take (k + 1))).length = n1 + 1) := Lib.hid (by rw [HY.out.1, List.length_append, HN1.out]; rfl)
            have HN2' : Hid ((mixK M (K'.take (k + 1))).length = n2) := Lib.hid (by rw [HY.out.2]; exact HN2.out)
            clear hown9 hg9 hoA hSA hoM9 hmFq hmBq hbq hoS hoM hmx e0 hle
            go_wp2
            go_roundw
            case rel => exact ⟨k + 1, n1 + 1, n2, by omega, by go_num, HN1', HN2', by omega, by omega, hoS8, hoM8, hb9⟩
            case measure => simp [intOf]; omega
        · have hbz := hb7.trans (hbq.mono hsz7)
          obtain ⟨LO, hLO⟩ : ∃ z, outK F M K' = z := ⟨_, rfl⟩
          obtain ⟨LM, hLM⟩ : ∃ z, mixK M K' = z := ⟨_, rfl⟩
          have ht9 : K'.take k = K' := List.take_of_length_le (by omega)
          rw [ht9, hLO] at HN1 hoS
          rw [ht9, hLM] at HN2 hoM
          rw [hLO, hLM] at HRR
          obtain rfl : LO.length = n1 := HN1.out
          obtain rfl : LM.length = n2 := HN2.out
          obtain ⟨gS, cS, rfl⟩ : ∃ a9 c9, u13 = .slice a9 LO.length c9 := by
            rcases hoS.2 with ⟨rfl, h9⟩ | ⟨g, cap, cur, rfl, _⟩
            · exact ⟨none, 0, by rw [h9]⟩
            · exact ⟨_, _, rfl⟩
          obtain ⟨gM, cM, rfl⟩ : ∃ a9 c9, u14 = .slice a9 LM.length c9 := by
            rcases hoM.2 with ⟨rfl, h9⟩ | ⟨g, cap, cur, rfl, _⟩
            · exact ⟨none, 0, by rw [h9]⟩
            · exact ⟨_, _, rfl⟩
          have HOS := Lib.hid (own_base hoS hsz7)
          have HOM := Lib.hid (own_base hoM hsz7)
          have HLL : Hid (LO.length ≤ 20000 ∧ LM.length ≤ 20000) := Lib.hid ⟨by omega, by omega⟩
          clear hLO hLM ht9 HN1 HN2 hoS hoM hbq
          go_wp2
          exact bodyPost_ret (v := .tuple #[.slice gS LO.length cS, .slice gM LM.length cM]) (by simp [results, Try.results36, go_sem]) rfl ⟨LO, LM, gS, gM, cS, cM, rfl, HOS.out, HOM.out, HRR.out, HLL.out, hbz⟩
end Ex
end Go.Proofs.Ytacchooggifnhaa
