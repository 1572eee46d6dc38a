/- exposed of package event. Printed by gen_expa.py. checkExposed, Exposed of package event. Printed by gen_vis.py. -/
import Derived.Test.YtacchooggifnhaaDoorCl05
import Derived.Test.YtacchooggifnhaaDoorCl07
import Derived.Deep.Cut
namespace Go.Proofs.YtacchooggifnhaaDoor
open Go.RowKit Go.ChangeMaps
namespace Ex
theorem sbj_info : (Tryd.prog.info? 36).map (fun i => (i.zero, i.size, i.bytes)) = some (some (.agg #[.string ⟨#[]⟩, .int .i64 0, .int .i64 0, .int .i64 0, .int .i64 0, .int .i64 0, .int .i64 0, .bool false]), 8, 72) := by kernel_rfl
theorem strE_info : (Tryd.prog.info? 9).map (fun i => (i.zero, i.size, i.bytes)) = some (some (.string ⟨#[]⟩), 1, 16) := by kernel_rfl
theorem own_ne_map {α β : Type} {kv : α → Value} {vv : β → Value} {w : World} {base e size n b : Nat} {v : Value} {xs : List Value} {l : List (α × β)} (h : w.ownsRow base e size v n xs) (hm : MapIs kv vv w b l) : v.ownBlock ≠ some b := by
  obtain ⟨es, clock, h1, _⟩ := hm
  rcases h.2 with ⟨rfl, _⟩ | ⟨g, cap, cur, rfl, _, hg, _⟩
  · simp [Value.ownBlock]
  · simp only [Value.ownBlock]
    intro e9
    cases e9
    rw [h1] at hg; cases hg
theorem own_ne_iter' {α β : Type} {kv : α → Value} {vv : β → Value} {w : World} {base e size n b r : Nat} {v : Value} {xs : List Value} {l left : List (α × β)} (h : w.ownsRow base e size v n xs) (hm : RangeIs kv vv w b r l left) : v.ownBlock ≠ some r := by
  obtain ⟨es, clock, s9, sn, c9, _, _, _, _, _, h1, _⟩ := hm
  rcases h.2 with ⟨rfl, _⟩ | ⟨g, cap, cur, rfl, _, hg, _⟩
  · simp [Value.ownBlock]
  · simp only [Value.ownBlock]
    intro e9
    cases e9
    rw [h1] at hg; cases hg
theorem iter_ne_map {α β α' β' : Type} {kv : α → Value} {vv : β → Value} {kv' : α' → Value} {vv' : β' → Value} {w : World} {b b2 r : Nat} {l left : List (α × β)} {M : List (α' × β')} (hm : MapIs kv' vv' w b2 M) (hr : RangeIs kv vv w b r l left) : r ≠ b2 := by
  obtain ⟨es, clock, h1, _⟩ := hm
  obtain ⟨es, clock, s9, sn, c9, _, _, _, _, _, h2, _⟩ := hr
  intro e9; rw [e9, h1] at h2; cases h2
theorem own_ne_own {w : World} {base base' e e' size size' n n' : Nat} {v v' : Value} {xs xs' : List Value} (h : w.ownsRow base e size v n xs) (h' : w.ownsRow base' e' size' v' n' xs') (hne : e ≠ e') : v.ownBlock = none ∨ v.ownBlock ≠ v'.ownBlock := by
  rcases h.2 with ⟨rfl, _⟩ | ⟨g, cap, cur, rfl, _, hg, _⟩
  · left; rfl
  · right
    rcases h'.2 with ⟨rfl, _⟩ | ⟨g', cap', cur', rfl, _, hg', _⟩
    · simp [Value.ownBlock]
    · simp only [Value.ownBlock]
      intro e9
      cases e9
      rw [hg] at hg'
      injection hg' with hg'
      injection hg' with _ h2 _
      exact hne h2
theorem fst_len (x : ByteArray) (l : List Ev) : (expX x l).1.length ≤ l.length := by
  have key : ∀ (l : List Ev) (st : Fst × Mix), (l.foldl (stepX x) st).1.length ≤ st.1.length + l.length := by
    intro l
    induction l with
    | nil => intro st; simp
    | cons e l ih =>
      intro st
      have h1 := ih (stepX x st e)
      rcases step_fst x st e with h2 | ⟨h2, _⟩
      · rw [h2] at h1; simp only [List.foldl_cons, List.length_cons]; omega
      · rw [h2] at h1
        have h3 := putL_length st.1 e.key e
        simp only [List.foldl_cons, List.length_cons]; omega
  have := key l ([], [])
  simpa [expX] using this
def outL (M : Mix) (done : Fst) : List Sbj := (done.filter (fun p => !mixB M p.1)).map subjOf
def keyL (M : Mix) (done : Fst) : List ByteArray := (done.filter (fun p => mixB M p.1)).map (·.1)
theorem outL_yes {M : Mix} {done : Fst} {p : ByteArray × Ev} (h : mixB M p.1 = false) : outL M (done ++ [p]) = outL M done ++ [subjOf p] ∧ keyL M (done ++ [p]) = keyL M done := by
  unfold outL keyL
  rw [List.filter_append, List.filter_append]
  simp [h]
theorem outL_no {M : Mix} {done : Fst} {p : ByteArray × Ev} (h : mixB M p.1 = true) : outL M (done ++ [p]) = outL M done ∧ keyL M (done ++ [p]) = keyL M done ++ [p.1] := by
  unfold outL keyL
  rw [List.filter_append, List.filter_append]
  simp [h]
theorem perm_step {F done left : Fst} {i : Nat} {p : ByteArray × Ev} (h : F.Perm (done ++ left)) (hi : left[i]? = some p) : F.Perm ((done ++ [p]) ++ left.eraseIdx i) := by
  refine h.trans ?_
  rw [List.append_assoc]
  exact (erase_perm hi).append_left done
theorem lens_le {F done left : Fst} {M : Mix} (h : F.Perm (done ++ left)) : (outL M done).length ≤ F.length ∧ (keyL M done).length ≤ F.length := by
  have h1 := h.length_eq
  rw [List.length_append] at h1
  unfold outL keyL
  rw [List.length_map, List.length_map]
  have h2 := List.length_filter_le (fun p : ByteArray × Ev => !mixB M p.1) done
  have h3 := List.length_filter_le (fun p : ByteArray × Ev => mixB M p.1) done
  omega
theorem wpList_mix {P : Program} {w : World} {ops : Array Oper} {rest : List Oper} {o : Oper} {a : Act} {Q : Exit → Act → World → Prop} (hg : o.guard = none) (m x : Operand) (t : TypeId) (hop : o.op = Op.lookup t m x false)
    {K E : TypeId} (ko : KeyOk P K Value.string) (ht : P.underlying t = some (.map K E)) (hz : (zeroValue E).run P w = .ok (.bool false) w) {b : Nat} {M : Mix}
    (hm : a.eval m = .map (some b)) (h : MapIs Value.string Value.bool w b M) (y : ByteArray) (hx : a.eval x = .string y) (bb : Bool) (hbb : mixB M y = bb)
    (hK : wpList P ops Q rest (a.put o.dst (.bool bb)) w) : wpList P ops Q (o :: rest) a w := by
  refine wpList_lookup_a hg m x t false hop ko ht hz hm h y hx ?_
  have e : ((look M y).map Value.bool).getD (.bool false) = .bool bb := by
    rw [← hbb]; unfold mixB; cases look M y <;> rfl
  rw [if_neg (by decide), e]; exact hK
theorem sl_kept {w w' : World} {a : Option Addr} {n c : Nat} {cs : List Value} {row : Option Nat} (h : Sl w (.slice a n c) n cs) (hg : w.grownBy w' row) (hr : ∀ b o, a = some ⟨b, o, none⟩ → row ≠ some b) : Sl w' (.slice a n c) n cs := by
  obtain ⟨a', cap, hv, h1, h2, h0, h3⟩ := h
  refine ⟨a', cap, hv, h1, h2, h0, fun i x hx => ?_⟩
  obtain ⟨b, o, ha, hc⟩ := h3 i x hx
  refine ⟨b, o, ha, ?_⟩
  have hlt := World.block_lt_of_cell? _ _ hc
  have hbk := hg.block b hlt (fun e => hr b o (by cases hv; exact ha) e.symm)
  simp only [World.cell?] at hc ⊢
  rw [hbk]; exact hc
/-- what exposed leaves -/
def ExpPost (x : ByteArray) (l : List Ev) (w : World) (e : Ending) (w' : World) : Prop := ∃ (o : List Sbj) (ks : List ByteArray) (a b : Option Addr) (c d : Nat), e = .returned (.tuple #[.slice a o.length c, .slice b ks.length d]) ∧ w'.ownsRow w.heap.size 36 8 (.slice a o.length c) o.length (o.flatMap sbL) ∧ w'.ownsRow w.heap.size 9 1 (.slice b ks.length d) ks.length (ks.map Value.string) ∧ ExpR (expX x l).1 (expX x l).2 o ks ∧ (o.length ≤ 20000 ∧ ks.length ≤ 20000) ∧ Below w.heap.size w w'
set_option maxRecDepth 100000 in
set_option maxHeartbeats 16000000 in
theorem exposed_at (l : List Ev) (x : ByteArray) (a : Option Addr) (c : Nat) (w : World) (h20 : l.length ≤ 20000) (hs : Sl w (.slice a l.length c) l.length (l.flatMap evL)) : Calls Tryd.prog 15 #[.slice a l.length c, .string x] w (ExpPost x l w) := by
  have hl := hs.len_le
  have HS := Lib.hid hs
  have hmm := @run_makeMap Tryd.prog
  clear hs
  go_enter Tryd.func15, Tryd.ntmps15
  go_upto_region 2 with (fail)
  refine wp_mapNew Value.string evV fun W1 hbW1 hmW1 => ?_
  go_upto_region 3 with (fail)
  refine wp_mapNew Value.string Value.bool fun W2 hbW2 hmW2 => ?_
  have hmF0 := hmW1.ext hbW2
  have hne : w.heap.size < W1.heap.size := hmW1.lt
  have hb0 := ext_trans hbW1 hbW2
  obtain ⟨mb, hmb⟩ : ∃ z, W1.heap.size = z := ⟨_, rfl⟩
  rw [hmb] at hmW2 hne ⊢
  clear hmm hbW1 hbW2 hmW1 hmb
  go_wp2
  go_loopw [20] (fun i wr => ∃ (k : Nat) (F : Fst) (M : Mix), k ≤ l.length ∧ i = .int .i64 k ∧ Hid (expX x (l.take k) = (F, M)) ∧ MapIs Value.string evV wr w.heap.size F ∧ MapIs Value.string Value.bool wr mb M ∧ Below w.heap.size w wr) (fun i _ => l.length - (intOf i).toNat)
  case atStart => exact ⟨0, [], [], by omega, rfl, rfl, hmF0, hmW2, hb0⟩
  case round =>
    clear hmF0 hmW2 hb0
    obtain ⟨k, F, M, hk, rfl, HST, hmF, hmB, hbr⟩ := hrel
    by_cases hlt : k < l.length
    · have hgk := List.getElem?_eq_getElem hlt
      generalize l[k] = s at hgk
      have HT := Lib.hid (expX_take (x := x) hgk)
      obtain ⟨b, o, rfl, e0, e1, e2, e3, e4, e5, e6, e7⟩ := ev_cells (HS.out.ext hbr) hgk
      have hk0 : (0 : Int) ≤ (k : Int) := Int.natCast_nonneg _
      have hk1 : (k : Int) < (l.length : Int) := by omega
      clear hgk
      go_upto_region 6 with (fail)
      clear e0 e1 e2 e3 e4 e5 e6 e7
      refine wp_box1 fun X hszX hbX hX => ?_
      replace hmF := hmF.ext hbX
      replace hmB := hmB.ext hbX
      replace hbr := hbr.trans (hbX.mono hbr.size)
      obtain ⟨g0, g1, g2, g3, g4, g5, g6, g7⟩ := box_ev hX
      clear hbX hszX
      by_cases hkd : s.kind = 1
      · by_cases hnx : s.name = x
        · have HEX := Lib.hid (isExp_yes hkd hnx)
          have hkb : (s.kind != 1) = false := by simpa using hkd
          have hnb : (s.name.toList == x.toList) = true := by rw [hnx]; simp
          have hnb2 : s.name.toList = x.toList := by rw [hnx]
          clear hkd hnx
          cases hlk : look F s.key with
          | none =>
            go_upto_region 8 with (at_lookup; refine wpList_lookup_miss rfl _ _ 65 rfl str_ok Tryd.underlying65 (zero_evt _) rfl hmF s.key rfl hlk ?_)
            clear g0 g1 g2 g3 g4 g5 g6 g7
            refine wp_box1 fun Z hszZ hbZ hZ => ?_
            replace hmF := hmF.ext hbZ
            replace hmB := hmB.ext hbZ
            replace hbr := hbr.trans (hbZ.mono hbr.size)
            replace hX := hX.ext hbZ
            obtain ⟨g0, g1, g2, g3, g4, g5, g6, g7⟩ := box_ev hX
            clear hbZ hszZ
            have HN := Lib.hid (step_new (x := x) (F := F) (M := M) HEX.out hlk)
            clear hlk hZ
            go_wp2_with (at_mapUpdate; refine wpList_update_a rfl _ _ _ 65 rfl str_ok Tryd.underlying65 rfl hmF s.key rfl s rfl ?_; intro w6 hm6 ht6)
            have hmB6 := turned_other hmB ht6 (by omega)
            have hb6 := hbr.trans (turned_below ht6 (Nat.le_refl _))
            clear hmF hmB hbr hX ht6 g0 g1 g2 g3 g4 g5 g6 g7
            have hmF := hm6
            have hmB := hmB6
            have hbr := hb6
            clear hm6 hmB6 hb6
            go_wp2
            go_roundw
            case rel => exact ⟨k + 1, putL F s.key s, M, by omega, by go_num, Lib.hid (by rw [HT.out]; exact (congrArg (fun st => stepX x st s) HST.out).trans HN.out), hmF, hmB, hbr⟩
            case measure => simp [intOf]; omega
          | some o =>
            go_upto_region 8 with (at_lookup; refine wpList_lookup_hit rfl _ _ 65 rfl str_ok Tryd.underlying65 (zero_evt _) rfl hmF s.key rfl o hlk ?_)
            clear g0 g1 g2 g3 g4 g5 g6 g7
            refine wp_box1 fun Z hszZ hbZ hZ => ?_
            replace hmF := hmF.ext hbZ
            replace hmB := hmB.ext hbZ
            replace hbr := hbr.trans (hbZ.mono hbr.size)
            replace hX := hX.ext hbZ
            obtain ⟨g0, g1, g2, g3, g4, g5, g6, g7⟩ := box_ev hX
            clear hbZ hszZ
            obtain ⟨f0, f1, f2, f3, f4, f5, f6, f7⟩ := box_ev hZ
            have HN := Lib.hid (step_old (x := x) (F := F) (M := M) HEX.out hlk)
            clear hlk
            by_cases ha : o.arm = s.arm
            · have hane : (o.arm != s.arm) = false := by simpa using ha
              have HA := Lib.hid ha
              clear ha
              by_cases ht : s.time < o.time
              · have HN2 : Hid (stepX x (F, M) s = (putL F s.key s, M)) := Lib.hid (HN.out.trans (by rw [if_pos ht, if_neg (by rw [HA.out]; simp)]))
                clear HN
                go_wp2_with (at_mapUpdate; refine wpList_update_a rfl _ _ _ 65 rfl str_ok Tryd.underlying65 rfl hmF s.key rfl s rfl ?_; intro w6 hm6 ht6)
                have hmB6 := turned_other hmB ht6 (by omega)
                have hb6 := hbr.trans (turned_below ht6 (Nat.le_refl _))
                clear hmF hmB hbr hX hZ f0 f1 f2 f3 f4 f5 f6 f7 ht6 g0 g1 g2 g3 g4 g5 g6 g7
                have hmF := hm6
                have hmB := hmB6
                have hbr := hb6
                clear hm6 hmB6 hb6
                go_wp2
                go_roundw
                case rel => exact ⟨k + 1, putL F s.key s, M, by omega, by go_num, Lib.hid (by rw [HT.out]; exact (congrArg (fun st => stepX x st s) HST.out).trans HN2.out), hmF, hmB, hbr⟩
                case measure => simp [intOf]; omega
              · have HN2 : Hid (stepX x (F, M) s = (F, M)) := Lib.hid (HN.out.trans (by rw [if_neg ht, if_neg (by rw [HA.out]; simp)]))
                clear HN
                go_wp2
                go_roundw
                case rel => exact ⟨k + 1, F, M, by omega, by go_num, Lib.hid (by rw [HT.out]; exact (congrArg (fun st => stepX x st s) HST.out).trans HN2.out), hmF, hmB, hbr⟩
                case measure => simp [intOf]; omega
            · have hane : (o.arm != s.arm) = true := by simpa using ha
              have HA := Lib.hid ha
              clear ha
              go_upto_region 10 with (at_mapUpdate; refine wpList_update_a rfl _ _ _ 66 rfl str_ok Tryd.underlying66 rfl hmB s.key rfl true rfl ?_; intro w5 hm5 ht5)
              have hmF5 := turned_other hmF ht5 (by omega)
              have hb5 := hbr.trans (turned_below ht5 (by omega))
              have hX5 := box_turned hX ht5
              have hZ5 := box_turned hZ ht5
              clear hmF hmB hbr hX hZ ht5 g0 g1 g2 g3 g4 g5 g6 g7 f0 f1 f2 f3 f4 f5 f6 f7
              rename_i _
              have hmF := hmF5
              have hmB := hm5
              have hbr := hb5
              have hX := hX5
              have hZ := hZ5
              clear hmF5 hm5 hb5 hX5 hZ5
              obtain ⟨g0, g1, g2, g3, g4, g5, g6, g7⟩ := box_ev hX
              obtain ⟨f0, f1, f2, f3, f4, f5, f6, f7⟩ := box_ev hZ
              by_cases ht : s.time < o.time
              · have HN2 : Hid (stepX x (F, M) s = (putL F s.key s, putL M s.key true)) := Lib.hid (HN.out.trans (by rw [if_pos ht, if_pos HA.out]))
                clear HN
                go_wp2_with (at_mapUpdate; refine wpList_update_a rfl _ _ _ 65 rfl str_ok Tryd.underlying65 rfl hmF s.key rfl s rfl ?_; intro w6 hm6 ht6)
                have hmB6 := turned_other hmB ht6 (by omega)
                have hb6 := hbr.trans (turned_below ht6 (Nat.le_refl _))
                clear hmF hmB hbr hX hZ f0 f1 f2 f3 f4 f5 f6 f7 ht6 g0 g1 g2 g3 g4 g5 g6 g7
                have hmF := hm6
                have hmB := hmB6
                have hbr := hb6
                clear hm6 hmB6 hb6
                go_wp2
                go_roundw
                case rel => exact ⟨k + 1, putL F s.key s, putL M s.key true, by omega, by go_num, Lib.hid (by rw [HT.out]; exact (congrArg (fun st => stepX x st s) HST.out).trans HN2.out), hmF, hmB, hbr⟩
                case measure => simp [intOf]; omega
              · have HN2 : Hid (stepX x (F, M) s = (F, putL M s.key true)) := Lib.hid (HN.out.trans (by rw [if_neg ht, if_pos HA.out]))
                clear HN
                go_wp2
                go_roundw
                case rel => exact ⟨k + 1, F, putL M s.key true, by omega, by go_num, Lib.hid (by rw [HT.out]; exact (congrArg (fun st => stepX x st s) HST.out).trans HN2.out), hmF, hmB, hbr⟩
                case measure => simp [intOf]; omega
        · have HNO := Lib.hid (step_no (st := (F, M)) (isExp_name (x := x) hnx))
          have hnb : (s.name.toList == x.toList) = false := by rw [beq_eq_false_iff_ne, ByteArray.toList_eq, ByteArray.toList_eq]; exact fun h => hnx (bytes_ext h)
          have hnb2 : ¬ (s.name.toList = x.toList) := by rw [ByteArray.toList_eq, ByteArray.toList_eq]; exact fun h => hnx (bytes_ext h)
          have hkb : (s.kind != 1) = false := by simpa using hkd
          clear hnx hkd
          go_wp2
          go_roundw
          case rel => exact ⟨k + 1, F, M, by omega, by go_num, Lib.hid (by rw [HT.out]; exact (congrArg (fun st => stepX x st s) HST.out).trans HNO.out), hmF, hmB, hbr⟩
          case measure => simp [intOf]; omega
      · have HNO := Lib.hid (step_no (st := (F, M)) (isExp_kind (x := x) hkd))
        have hkb : (s.kind != 1) = true := by simpa using hkd
        clear hkd
        go_wp2
        go_roundw
        case rel => exact ⟨k + 1, F, M, by omega, by go_num, Lib.hid (by rw [HT.out]; exact (congrArg (fun st => stepX x st s) HST.out).trans HNO.out), hmF, hmB, hbr⟩
        case measure => simp [intOf]; omega
    · have HST2 : Hid (expX x l = (F, M)) := Lib.hid (by have h9 := HST.out; rw [List.take_of_length_le (by omega)] at h9; exact h9)
      clear HST
      have hFl : F.length ≤ 20000 := by
        have h9 := fst_len x l
        rw [HST2.out] at h9
        exact Nat.le_trans h9 h20
      go_wp2_with (at_range; refine wpList_range_a rfl _ 65 rfl Tryd.underlying65 rfl hmF ?_; intro w5 hrg5 hb5)
      go_frame
      obtain ⟨r, hr⟩ : ∃ z, wr.heap.size = z := ⟨_, rfl⟩
      rw [hr] at hrg5 ⊢
      have hmB5 := hmB.ext hb5
      have hbw5 := hbr.trans (hb5.mono hbr.size)
      have hrlow : w.heap.size ≤ r := by rw [← hr]; exact hbr.size
      clear hb5 hbr hmF hmB hr
      go_loopw [12, 13] (fun v12 v13 wq => ∃ (done left : Fst) (n1 n2 : Nat), RangeIs Value.string evV wq w.heap.size r F left ∧ Hid (F.Perm (done ++ left)) ∧ Hid ((outL M done).length = n1) ∧ Hid ((keyL M done).length = n2) ∧ n1 ≤ 20000 ∧ n2 ≤ 20000 ∧ wq.ownsRow w.heap.size 36 8 v12 n1 ((outL M done).flatMap sbL) ∧ wq.ownsRow w.heap.size 9 1 v13 n2 ((keyL M done).map Value.string) ∧ MapIs Value.string Value.bool wq mb M ∧ Below w.heap.size w wq) (fun _ _ wq => wq.rangeLeft w.heap.size r)
      case atStart => exact ⟨[], F, 0, 0, hrg5, Lib.hid (List.Perm.refl _), rfl, rfl, by omega, by omega, World.ownsRow_nil _ _ _ _, World.ownsRow_nil _ _ _ _, hmB5, hbw5⟩
      case round =>
        clear hrg5 hmB5 hbw5
        obtain ⟨done, left, n1, n2, hrg, HP, HN1, HN2, hn1, hn2, hoS, hoK, hmB, hbq⟩ := hrel
        go_wp2_with (at_next; refine wpList_next_a rfl _ rfl rfl hrg ?_ ?_)
        · intro hl0
          subst hl0
          have HPF : Hid (F.Perm done) := Lib.hid (by have h9 := HP.out; rwa [List.append_nil] at h9)
          clear HP hrg hmB
          obtain ⟨gS, cS, rfl⟩ : ∃ a9 c9, u12 = .slice a9 n1 c9 := by
            rcases hoS.2 with ⟨rfl, h9⟩ | ⟨g, cap, cur, rfl, _⟩
            · exact ⟨none, 0, by rw [h9]⟩
            · exact ⟨_, _, rfl⟩
          obtain ⟨gK, cK, rfl⟩ : ∃ a9 c9, u13 = .slice a9 n2 c9 := by
            rcases hoK.2 with ⟨rfl, h9⟩ | ⟨g, cap, cur, rfl, _⟩
            · exact ⟨none, 0, by rw [h9]⟩
            · exact ⟨_, _, rfl⟩
          obtain ⟨LS, hLS⟩ : ∃ z, outL M done = z := ⟨_, rfl⟩
          obtain ⟨LK, hLK⟩ : ∃ z, keyL M done = z := ⟨_, rfl⟩
          rw [hLS] at HN1 hoS
          rw [hLK] at HN2 hoK
          have HLS := Lib.hid hLS
          have HLK := Lib.hid hLK
          obtain rfl : LS.length = n1 := HN1.out
          obtain rfl : LK.length = n2 := HN2.out
          clear hLS hLK HN1 HN2
          have hnn := own_ne_own hoK hoS (by decide)
          go_wp2_with fail
          refine (sortSbj_at w.heap.size LS hn1 _ wr hbq.size hoS).mono ?_
          rintro e w6 ⟨rfl, S', hp1, hs1, hS6, hg6⟩
          have hb6 := hbq.grown hg6 hbq.size (fun q hq => (hoS.lt q hq).1)
          have hoK6 := hoK.kept hg6 hnn
          have HP1 := Lib.hid hp1
          have HSO1 := Lib.hid hs1
          clear hp1 hs1 hg6 hbq hoK
          go_wp2_with fail
          refine (sortStr_at w.heap.size LK hn2 _ w6 hb6.size hoK6).mono ?_
          rintro e w7 ⟨rfl, K', hp2, hs2, hK7, hg7⟩
          have hb7 := hb6.grown hg7 hb6.size (fun q hq => (hoK6.lt q hq).1)
          have hS7 := hS6.kept hg7 (own_ne_own hS6 hoK6 (by decide))
          have HN : Hid (ExpR (expX x l).1 (expX x l).2 S' K') := Lib.hid (by
            rw [HST2.out]
            have hF := (first_ok x l).1
            rw [HST2.out] at hF
            exact expR_of hF HPF.out (by show S'.Perm (outL M done); rw [HLS.out]; exact HP1.out) HSO1.out (by show K'.Perm (keyL M done); rw [HLK.out]; exact hp2) hs2)
          have e1 : LS.length = S'.length := HP1.out.length_eq.symm
          have e2 : LK.length = K'.length := hp2.length_eq.symm
          have HLL : Hid (S'.length ≤ 20000 ∧ K'.length ≤ 20000) := Lib.hid ⟨by rw [← e1]; exact hn1, by rw [← e2]; exact hn2⟩
          clear hoS hoK6 hS6 hg7 hb6 hp2 hs2
          rw [e1] at hS7 ⊢
          rw [e2] at hK7 ⊢
          clear e1 e2
          go_wp2
          exact bodyPost_ret (v := .tuple #[.slice gS S'.length cS, .slice gK K'.length cK]) (by simp [results, Tryd.results15, go_sem]) rfl ⟨S', K', gS, gK, cS, cK, rfl, hS7, hK7, HN.out, HLL.out, hb7⟩
        · intro p e i w6 hli hrg6 hg6 hs6 hen
          have HP2 := Lib.hid (perm_step HP.out hli)
          have hlen : left.length = (left.eraseIdx i).length + 1 := by
            obtain ⟨h9, _⟩ := List.getElem?_eq_some_iff.1 hli
            rw [List.length_eraseIdx_of_lt h9]; omega
          have hme : w6.rangeLeft w.heap.size r < wr.rangeLeft w.heap.size r := by rw [hrg6.left_eq, hrg.left_eq]; omega
          have HLE := Lib.hid (lens_le (M := M) HP2.out)
          have hrS : u12.ownBlock = none ∨ u12.ownBlock ≠ some r := .inr (own_ne_iter' hoS hrg)
          have hrK : u13.ownBlock = none ∨ u13.ownBlock ≠ some r := .inr (own_ne_iter' hoK hrg)
          have hoS6 := hoS.kept hg6 hrS
          have hoK6 := hoK.kept hg6 hrK
          have hmB6 := hmB.grown hg6 (fun e9 => iter_ne_map hmB hrg (by injection e9))
          have hb6 : Below w.heap.size w w6 := hbq.grown hg6 hbq.size (fun q hq => (by cases hq; exact hrlow))
          clear hrS hrK hoS hoK hmB hbq hg6 hli hrg hlen HP hs6
          go_upto_region 18 with (fail)
          refine wp_box1 fun X hszX hbX hX => ?_
          obtain ⟨g0, g1, g2, g3, g4, g5, g6, g7⟩ := box_ev hX
          have hrgX := hrg6.ext hbX
          have hoSX := ownsRow_ext hoS6 hbX
          have hoKX := ownsRow_ext hoK6 hbX
          have hmBX := hmB6.ext hbX
          have hb7 := hb6.trans (hbX.mono hb6.size)
          have hmeX : X.rangeLeft w.heap.size r < wr.rangeLeft w.heap.size r := by rw [hrgX.left_eq, ← hrg6.left_eq]; exact hme
          have HME := Lib.hid hmeX
          clear hrg6 hoS6 hoK6 hmB6 hb6 hbX hX hme hszX hmeX
          have HMX : Hid (mixB M p = true ∨ mixB M p = false) := Lib.hid (by cases mixB M p <;> simp)
          rcases HMX.out with hmx | hmx
          · have HY := Lib.hid (outL_no (M := M) (done := done) (p := (p, e)) hmx)
            have hone : ∀ u ∈ ([Value.string p] : List Value), u.oneCell' = true := by intro u hu; simp at hu; subst hu; rfl
            clear HMX g0 g1 g2 g3 g4 g5 g6 g7
            have hl1 := HLE.out.2
            rw [HY.out.2, List.length_append, HN2.out, List.length_singleton] at hl1
            go_wp2_with (first | (at_lookup; refine wpList_mix rfl _ _ 66 rfl str_ok Tryd.underlying66 (zero_bl _) rfl hmBX p rfl true hmx ?_) | (at_builtin; refine wpList_append_sl rfl _ _ 23 rfl w.heap.size 9 Tryd.underlying23 strE_info rfl (by decide) rfl (ownsRow_ext hoKX (ext_alloc _ _)) rfl (Sl.new X #[.string p] _ 1 1 (by omega) (by decide)) rfl hone (by unfold maxLen; omega) (by omega) (by have := hb7.size; simp; omega) ?_; intro v7 w7 hown7 hg7 _))
            have hoA := ownsRow_ext hoKX (ext_alloc X (.cells #[.string p] 9))
            have hrA := hrgX.ext (ext_alloc X (.cells #[.string p] 9))
            have hSA := ownsRow_ext hoSX (ext_alloc X (.cells #[.string p] 9))
            have hmA := hmBX.ext (ext_alloc X (.cells #[.string p] 9))
            have hrg8 := hrA.kept hg7 (own_ne_map hoA hrA.owns) (own_ne_iter' hoA hrA)
            have hoS8 := hSA.kept hg7 (own_ne_own hSA hoA (by decide))
            have hmB8 := hmA.grown hg7 (own_ne_map hoA hmA)
            have hb8 : Below w.heap.size w w7 := (hb7.trans ((ext_alloc X (.cells #[.string p] 9)).mono hb7.size)).grown hg7 (by have := hb7.size; simp; omega) (fun q hq => (hoA.lt q hq).1)
            have hoK8 : w7.ownsRow w.heap.size 9 1 v7 (n2 + 1) ((keyL M (done ++ [(p, e)])).map Value.string) := by rw [HY.out.2, List.map_append]; exact hown7
            have hoS9 : w7.ownsRow w.heap.size 36 8 u12 n1 ((outL M (done ++ [(p, e)])).flatMap sbL) := by rw [HY.out.1]; exact hoS8
            have HN1' : Hid ((outL M (done ++ [(p, e)])).length = n1) := Lib.hid (by rw [HY.out.1]; exact HN1.out)
            have HN2' : Hid ((keyL M (done ++ [(p, e)])).length = n2 + 1) := Lib.hid (by rw [HY.out.2, List.length_append, HN2.out]; rfl)
            have HM8 : Hid (w7.rangeLeft w.heap.size r < wr.rangeLeft w.heap.size r) := Lib.hid (by rw [hrg8.left_eq, ← hrgX.left_eq]; exact HME.out)
            clear hown7 hg7 hoA hrA hSA hmA hoS8 hrgX hoSX hoKX hmBX hb7 hmx
            go_wp2
            go_roundw
            case rel => exact ⟨done ++ [(p, e)], left.eraseIdx i, n1, n2 + 1, hrg8, HP2, HN1', HN2', hn1, by omega, hoS9, hoK8, hmB8, hb8⟩
            case measure => exact HM8.out
          · have HY := Lib.hid (outL_yes (M := M) (done := done) (p := (p, e)) hmx)
            have hone := sbL_one (subjOf (p, e))
            clear HMX
            have hl1 := HLE.out.1
            rw [HY.out.1, List.length_append, HN1.out, List.length_singleton] at hl1
            go_wp2_with (first | (at_lookup; refine wpList_mix rfl _ _ 66 rfl str_ok Tryd.underlying66 (zero_bl _) rfl hmBX p rfl false hmx ?_) | (at_builtin; refine wpList_append_sl rfl _ _ 27 rfl w.heap.size 36 Tryd.underlying27 sbj_info rfl (by decide) rfl (ownsRow_ext hoSX (ext_alloc _ _)) rfl (Sl.new X (sbC (subjOf (p, e))) _ 1 1 (by omega) (by decide)) rfl hone (by unfold maxLen; omega) (by omega) (by have := hb7.size; simp; omega) ?_; intro v7 w7 hown7 hg7 _))
            have hoA := ownsRow_ext hoSX (ext_alloc X (.cells (sbC (subjOf (p, e))) 36))
            have hrA := hrgX.ext (ext_alloc X (.cells (sbC (subjOf (p, e))) 36))
            have hSA := ownsRow_ext hoKX (ext_alloc X (.cells (sbC (subjOf (p, e))) 36))
            have hmA := hmBX.ext (ext_alloc X (.cells (sbC (subjOf (p, e))) 36))
            have hrg8 := hrA.kept hg7 (own_ne_map hoA hrA.owns) (own_ne_iter' hoA hrA)
            have hoK8 := hSA.kept hg7 (own_ne_own hSA hoA (by decide))
            have hmB8 := hmA.grown hg7 (own_ne_map hoA hmA)
            have hb8 : Below w.heap.size w w7 := (hb7.trans ((ext_alloc X (.cells (sbC (subjOf (p, e))) 36)).mono hb7.size)).grown hg7 (by have := hb7.size; simp; omega) (fun q hq => (hoA.lt q hq).1)
            have hoS8 : w7.ownsRow w.heap.size 36 8 v7 (n1 + 1) ((outL M (done ++ [(p, e)])).flatMap sbL) := by
              rw [HY.out.1, List.flatMap_append, show ([subjOf (p, e)] : List Sbj).flatMap sbL = sbL (subjOf (p, e)) by simp]; exact hown7
            have hoK9 : w7.ownsRow w.heap.size 9 1 u13 n2 ((keyL M (done ++ [(p, e)])).map Value.string) := by rw [HY.out.2]; exact hoK8
            have HN1' : Hid ((outL M (done ++ [(p, e)])).length = n1 + 1) := Lib.hid (by rw [HY.out.1, List.length_append, HN1.out]; rfl)
            have HN2' : Hid ((keyL M (done ++ [(p, e)])).length = n2) := Lib.hid (by rw [HY.out.2]; exact HN2.out)
            have HM8 : Hid (w7.rangeLeft w.heap.size r < wr.rangeLeft w.heap.size r) := Lib.hid (by rw [hrg8.left_eq, ← hrgX.left_eq]; exact HME.out)
            clear hown7 hg7 hoA hrA hSA hmA hoK8 hrgX hoSX hoKX hmBX hb7 hmx g0 g1 g2 g3 g4 g5 g6 g7
            go_wp2
            go_roundw
            case rel => exact ⟨done ++ [(p, e)], left.eraseIdx i, n1 + 1, n2, hrg8, HP2, HN1', HN2', by omega, hn2, hoS8, hoK9, hmB8, hb8⟩
            case measure => exact HM8.out
end Ex
end Go.Proofs.YtacchooggifnhaaDoor
namespace Go.Proofs.YtacchooggifnhaaDoor
open Go.RowKit
namespace Ex
/-- what is wrong with a log and the name of an experiment -/
def expF (l : List Ev) (x : ByteArray) : Int := if checkL l ≠ 0 then checkL l else if nameB x.data.toList = true then 0 else 5
theorem expF_ok {l : List Ev} {x : ByteArray} (h : expF l x = 0) : checkL l = 0 := by
  unfold expF at h
  by_cases h1 : checkL l = 0
  · exact h1
  · rw [if_pos h1] at h; exact absurd h h1
theorem checkL_len {l : List Ev} (h : checkL l = 0) : l.length ≤ 20000 := by
  unfold checkL at h
  by_cases h1 : 20000 < l.length
  · rw [if_pos h1] at h; omega
  · omega
set_option maxRecDepth 100000 in
set_option maxHeartbeats 16000000 in
theorem checkExposed_at (l : List Ev) (hok : ∀ e ∈ l, e.ok) (x : ByteArray) (hx : x.size ≤ maxLen) (a : Option Addr) (c : Nat) (w : World) (hs : Sl w (.slice a l.length c) l.length (l.flatMap evL)) :
    Calls Tryd.prog 20 #[.slice a l.length c, .string x] w fun e w' => e = .returned (.int .i64 (expF l x)) ∧ Below w.heap.size w w' := by
  have HOK := Lib.hid hok
  have HS := Lib.hid hs
  have HX := Lib.hid hx
  clear hok hs hx
  go_enter Tryd.func20, Tryd.ntmps20
  go_wp2_with fail
  refine (event_CheckLog l HOK.out a c w HS.out).mono ?_
  rintro e w1 ⟨rfl, hb1⟩
  obtain ⟨f, hf⟩ : ∃ z, checkL l = z := ⟨_, rfl⟩
  have HF : Hid (expF l x = if f ≠ 0 then f else if nameB x.data.toList = true then 0 else 5) := Lib.hid (by rw [← hf]; rfl)
  rw [hf]
  clear hf
  by_cases h0 : f = 0
  · subst h0
    obtain ⟨nb, hnb⟩ : ∃ z, nameB x.data.toList = z := ⟨_, rfl⟩
    rw [hnb] at HF
    have HXN := Lib.hid (fun W9 => (by have h9 := rule_XisName x HX.out W9; rw [hnb] at h9; exact h9 : Calls Tryd.prog 13 #[.string x] W9 fun e w' => e = .returned (.bool nb) ∧ W9 = w'))
    clear hnb
    go_wp2_with fail
    refine (HXN.out w1).mono ?_
    rintro e w2 ⟨rfl, hw⟩
    subst hw
    cases nb
    · have HN : Hid (expF l x = 5) := Lib.hid (HF.out.trans rfl)
      go_wp2
      go_ret
      exact ⟨ret_int HN.out.symm, hb1⟩
    · have HN : Hid (expF l x = 0) := Lib.hid (HF.out.trans rfl)
      go_wp2
      go_ret
      exact ⟨ret_int HN.out.symm, hb1⟩
  · have hne : (f != 0) = true := by simpa using h0
    have HN : Hid (expF l x = f) := Lib.hid (HF.out.trans (if_pos h0))
    clear h0
    go_wp2
    go_ret
    exact ⟨ret_int HN.out.symm, hb1⟩
/-- what Exposed leaves -/
def ExdPost (x : ByteArray) (l : List Ev) (w : World) (e : Ending) (w' : World) : Prop := ∃ (o : List Sbj) (ks : List ByteArray) (a b : Option Addr) (c d : Nat), e = .returned (.tuple #[.slice a o.length c, .slice b ks.length d, .int .i64 (expF l x)]) ∧ Sl w' (.slice a o.length c) o.length (o.flatMap sbL) ∧ Sl w' (.slice b ks.length d) ks.length (ks.map Value.string) ∧ (if expF l x = 0 then ExpR (expX x l).1 (expX x l).2 o ks else o = [] ∧ ks = []) ∧ (o.length ≤ 20000 ∧ ks.length ≤ 20000) ∧ Below w.heap.size w w'
set_option maxRecDepth 100000 in
set_option maxHeartbeats 16000000 in
theorem Exposed_at (l : List Ev) (hok : ∀ e ∈ l, e.ok) (x : ByteArray) (hx : x.size ≤ maxLen) (a : Option Addr) (c : Nat) (w : World) (hs : Sl w (.slice a l.length c) l.length (l.flatMap evL)) :
    Calls Tryd.prog 7 #[.slice a l.length c, .string x] w (ExdPost x l w) := by
  have HOK := Lib.hid hok
  have HS := Lib.hid hs
  have HX := Lib.hid hx
  clear hok hs hx
  go_enter Tryd.func7, Tryd.ntmps7
  go_wp2_with fail
  refine (checkExposed_at l HOK.out x HX.out a c w HS.out).mono ?_
  rintro e w1 ⟨rfl, hb1⟩
  obtain ⟨f, hf⟩ : ∃ z, expF l x = z := ⟨_, rfl⟩
  have HF := Lib.hid hf
  rw [hf]
  clear hf
  by_cases h0 : f = 0
  · subst h0
    go_wp2_with fail
    refine (exposed_at l x a c w1 (checkL_len (expF_ok HF.out)) (HS.out.ext hb1)).mono ?_
    rintro e w2 ⟨o, ks, p, q, cp, cq, rfl, ho1, ho2, hR, hll, hb2⟩
    have hs1 := Sl.ofOwn ho1
    have hs2 := Sl.ofOwn ho2
    have HLL := Lib.hid hll
    clear ho1 ho2 hll
    have HR := Lib.hid hR
    have HS1 := Lib.hid hs1
    have HS2 := Lib.hid hs2
    have hb3 := ext_trans hb1 hb2
    clear hs1 hs2 hR hb1 hb2
    go_wp2
    exact bodyPost_ret (v := .tuple #[.slice p o.length cp, .slice q ks.length cq, .int .i64 0]) (by simp [results, Tryd.results7, go_sem]) rfl ⟨o, ks, p, q, cp, cq, by rw [HF.out], HS1.out, HS2.out, by rw [if_pos HF.out]; exact HR.out, HLL.out, hb3⟩
  · have hne : (f != 0) = true := by simpa using h0
    have H0 := Lib.hid h0
    clear h0
    go_wp2
    exact bodyPost_ret (v := .tuple #[.slice none 0 0, .slice none 0 0, .int .i64 f]) (by simp [results, Tryd.results7, go_sem]) rfl ⟨[], [], none, none, 0, 0, by rw [HF.out]; rfl, Sl.nil _, Sl.nil _, by rw [if_neg (by rw [HF.out]; exact H0.out)]; exact ⟨rfl, rfl⟩, ⟨Nat.zero_le _, Nat.zero_le _⟩, hb1⟩
end Ex
end Go.Proofs.YtacchooggifnhaaDoor
