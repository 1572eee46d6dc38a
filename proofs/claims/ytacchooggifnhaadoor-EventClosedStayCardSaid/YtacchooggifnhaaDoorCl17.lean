/- outcomes of package event: a map whose values are rows of the call's own. Printed by gen_outa.py. Visits of package event. Printed by gen_visa.py. -/
import Derived.Test.YtacchooggifnhaaDoorCl08
import Derived.Test.YtacchooggifnhaaDoorCl09
import Derived.Test.YtacchooggifnhaaDoorCl16
import Derived.Maps.AppendAt
import Derived.Test.YtacchooggifnhaaDoorCl05
namespace Go.Proofs.YtacchooggifnhaaDoor
open Go.RowKit Go.ChangeMaps
namespace Ex
theorem evE_info : (Tryd.prog.info? 43).map (fun i => (i.zero, i.size, i.bytes)) = some (some (.agg #[.string ⟨#[]⟩, .int .i64 0, .int .i64 0, .int .i64 0, .string ⟨#[]⟩, .string ⟨#[]⟩, .int .i64 0, .int .i64 0]), 8, 88) := by kernel_rfl
theorem zero_rows (w : World) : (zeroValue 22).run Tryd.prog w = .ok (.slice none 0 0) w := by kernel_rfl
theorem box_grown' {w w' : World} {b : Nat} {A : Array Value} {row : Option Nat} (h : Box w b A) (hg : w.grownBy w' row) (hr : row ≠ some b) : Box w' b A := by
  refine ⟨Nat.lt_of_lt_of_le h.1 hg.size, fun j => ?_⟩
  rw [← h.2 j]
  simp only [World.cell?, hg.block b h.1 (fun e => hr e.symm)]
theorem put_mem {α β : Type} [DecidableEq α] : ∀ {l : List (α × β)} {x : α} {y : β} {p : α × β}, (l.map (·.1)).Nodup → p ∈ putL l x y → p = (x, y) ∨ (p ∈ l ∧ p.1 ≠ x)
  | [], x, y, p, _, h => by simp [putL] at h; exact .inl h
  | q :: l, x, y, p, hn, h => by
    rw [List.map_cons, List.nodup_cons] at hn
    unfold putL at h
    by_cases hx : x = q.1
    · rw [if_pos hx] at h
      rcases List.mem_cons.1 h with h | h
      · exact .inl h
      · exact .inr ⟨List.mem_cons_of_mem _ h, fun e => hn.1 (by rw [← hx, ← e]; exact List.mem_map.2 ⟨p, h, rfl⟩)⟩
    · rw [if_neg hx] at h
      rcases List.mem_cons.1 h with h | h
      · exact .inr ⟨h ▸ List.mem_cons_self, fun e => hx (by rw [← e, h])⟩
      · rcases put_mem hn.2 h with h | ⟨h1, h2⟩
        · exact .inl h
        · exact .inr ⟨List.mem_cons_of_mem _ h1, h2⟩
theorem own_form' {w : World} {base e size n : Nat} {v : Value} {xs : List Value} (h : w.ownsRow base e size v n xs) (hn : 0 < n) : ∃ g cap, v = .slice (some ⟨g, 0, none⟩) n cap ∧ base ≤ g := by
  obtain ⟨h1, ⟨rfl, h2⟩ | ⟨g, cap, cur, rfl, hb, _⟩⟩ := h
  · omega
  · exact ⟨g, cap, rfl, hb⟩
abbrev RowT := List (ByteArray × (Value × List Ev))
abbrev rowV (p : Value × List Ev) : Value := p.1
/-- a map that holds, by key, the outcomes with a name, in rows of the call's own -/
structure OutM (w : World) (base b : Nat) (T : RowT) (name : ByteArray) (l : List Ev) : Prop where
  lo : base ≤ b
  map : MapIs Value.string rowV w b T
  keys : (T.map (·.1)).Nodup
  rows : ∀ p ∈ T, w.ownsRow base 43 8 p.2.1 p.2.2.length (p.2.2.flatMap evL)
  apart : ∀ p ∈ T, ∀ q ∈ T, p.1 ≠ q.1 → p.2.1.ownBlock ≠ q.2.1.ownBlock
  is : ∀ key, ((look T key).map (·.2)).getD [] = outsK name l key
  pos : ∀ p ∈ T, 0 < p.2.2.length
theorem OutM.ext {w w' : World} {base b : Nat} {T : RowT} {name : ByteArray} {l : List Ev} (h : OutM w base b T name l) (hb : Below w.heap.size w w') : OutM w' base b T name l :=
  ⟨h.lo, h.map.ext hb, h.keys, fun p hp => ownsRow_ext (h.rows p hp) hb, h.apart, h.is, h.pos⟩
/-- a row below the map's rows is written -/
theorem OutM.grown {w w' : World} {base b : Nat} {T : RowT} {name : ByteArray} {l : List Ev} (h : OutM w base b T name l) {row : Option Nat} (hg : w.grownBy w' row) (hr : ∀ g, row = some g → g < base) : OutM w' base b T name l := by
  refine ⟨h.lo, h.map.grown hg (fun e => ?_), h.keys, fun p hp => (h.rows p hp).kept hg (.inr fun e => ?_), h.apart, h.is, h.pos⟩
  · have := hr b e; have := h.lo; omega
  · cases hv : p.2.1.ownBlock with
    | none =>
      obtain ⟨g', cap, hf, _⟩ := own_form' (h.rows p hp) (h.pos p hp)
      rw [hf] at hv; cases hv
    | some g' =>
      rw [hv] at e
      have h1 := hr g' e.symm
      have h2 := (h.rows p hp).lt g' hv
      omega
/-- the row of a key, and what it holds -/
theorem OutM.row {w : World} {base b : Nat} {T : RowT} {name : ByteArray} {l : List Ev} (h : OutM w base b T name l) (key : ByteArray) :
    w.ownsRow base 43 8 (((look T key).map rowV).getD (.slice none 0 0)) (outsK name l key).length ((outsK name l key).flatMap evL) ∧ (∀ p ∈ T, p.1 ≠ key → (((look T key).map rowV).getD (.slice none 0 0)).ownBlock = none ∨ (((look T key).map rowV).getD (.slice none 0 0)).ownBlock ≠ p.2.1.ownBlock) := by
  have h1 := h.is key
  cases hl : look T key with
  | none =>
    rw [hl] at h1
    have h2 : outsK name l key = [] := by simpa using h1.symm
    rw [h2]
    exact ⟨World.ownsRow_nil _ _ _ _, fun p _ _ => .inl rfl⟩
  | some y =>
    rw [hl] at h1
    have h2 : y.2 = outsK name l key := by simpa using h1
    have hm := look_some_mem hl
    rw [← h2]
    exact ⟨h.rows _ hm, fun p hp hne => .inr (h.apart _ hm p hp (fun e => hne e.symm))⟩
/-- one outcome more in the map -/
theorem OutM.put {w Z1 Z2 Z3 : World} {base b : Nat} {T : RowT} {name : ByteArray} {l : List Ev} {k : Nat} {e : Ev} (h : OutM w base b T name (l.take k)) (hk : l[k]? = some e) (he : isOutc name e = true) (hb1 : Below w.heap.size w Z1)
    {v v' : Value} (hv : ((look T e.key).map rowV).getD (.slice none 0 0) = v) (hg : Z1.grownBy Z2 v.ownBlock) (hown : Z2.ownsRow base 43 8 v' ((outsK name (l.take k) e.key).length + 1) ((outsK name (l.take k) e.key).flatMap evL ++ evL e))
    (hat : v'.ownBlock = v.ownBlock ∨ v'.ownBlock = some Z1.heap.size) (hm : MapIs Value.string rowV Z3 b (putL T e.key (v', outsK name (l.take k) e.key ++ [e]))) (ht : Z2.mapTurned Z3 b) :
    OutM Z3 base b (putL T e.key (v', outsK name (l.take k) e.key ++ [e])) name (l.take (k + 1)) := by
  have h1 := h.ext hb1
  obtain ⟨r1, r2⟩ := h1.row e.key
  rw [hv] at r1 r2
  obtain ⟨g, cap, hvf, hvb⟩ := own_form' hown (by omega)
  refine ⟨h.lo, hm, putL_nodup h.keys _ _, fun p hp => ?_, fun p hp q hq hne => ?_, fun key => ?_, fun p hp => ?_⟩
  · refine ownsRow_turned ?_ ht
    rcases put_mem h.keys hp with rfl | ⟨h2, h3⟩
    · rw [List.length_append, List.flatMap_append, show ([e] : List Ev).flatMap evL = evL e by simp]; exact hown
    · exact (h1.rows p h2).kept hg (by
        rcases r2 p h2 h3 with h4 | h4
        · rw [h4]
          cases hpb : p.2.1.ownBlock with
          | none => exact .inl rfl
          | some z => exact .inr (by simp)
        · exact .inr (fun e9 => h4 e9.symm))
  · have key : ∀ p ∈ T, p.1 ≠ e.key → v'.ownBlock ≠ p.2.1.ownBlock := by
      intro p hp hne
      rcases hat with h4 | h4
      · rcases r2 p hp hne with h5 | h5
        · rw [h5, hvf] at h4; cases h4
        · rw [h4]; exact h5
      · rw [h4]
        intro e9
        have := ((h1.rows p hp).lt _ e9.symm).2
        omega
    rcases put_mem h.keys hp with rfl | ⟨h2, h3⟩
    · rcases put_mem h.keys hq with rfl | ⟨h4, h5⟩
      · exact absurd rfl hne
      · exact key q h4 h5
    · rcases put_mem h.keys hq with rfl | ⟨h4, h5⟩
      · exact fun e9 => key p h2 h3 e9.symm
      · exact h.apart p h2 q h4 hne
  · rw [look_put, outsK_take hk]
    by_cases hkk : key = e.key
    · rw [if_pos hkk, if_pos ⟨he, hkk.symm⟩, hkk]; rfl
    · rw [if_neg hkk, if_neg (fun h9 => hkk h9.2.symm), List.append_nil]
      exact h.is key
  · rcases put_mem h.keys hp with rfl | ⟨h2, _⟩
    · simp
    · exact h.pos p h2
theorem OutM.skip {w : World} {base b : Nat} {T : RowT} {name : ByteArray} {l : List Ev} {k : Nat} {e : Ev} (h : OutM w base b T name (l.take k)) (hk : l[k]? = some e) (he : isOutc name e = false) : OutM w base b T name (l.take (k + 1)) :=
  ⟨h.lo, h.map, h.keys, h.rows, h.apart, fun key => by rw [outsK_take hk, if_neg (fun h9 => by rw [he] at h9; cases h9.1), List.append_nil]; exact h.is key, h.pos⟩
theorem wpList_append_run {P : Program} {w w' : World} {ops : Array Oper} {rest : List Oper} {o : Oper} {a : Act} {Q : Exit → Act → World → Prop} (hgd : o.guard = none) (s x : Operand) (t : TypeId)
    (ho : o.op = .call { callee := .builtin .append, args := #[s, x], argTypes := #[t, t] }) {v xv v' : Value} (hs : a.eval s = v) (hx : a.eval x = xv) (hrun : (Builtin.append_ #[t, t] o.type #[v, xv]).run P w = .ok v' w') (h : wpList P ops Q rest (a.put o.dst v') w') : wpList P ops Q (o :: rest) a w := by
  refine wpList_plain hgd fun K hK => ?_
  unfold Oper.wp execOp
  simp only [ho, resolve, invoke, builtin, Sem.run_bind, Sem.run_pure, Result.andThen_ok, List.map_toArray, List.map_cons, List.map_nil, hs, hx, hrun]
  exact hK _ _ h
/-- an event behind a row -/
theorem ev_append {w : World} {base : Nat} {v : Value} {n : Nat} {xs : List Value} (e : Ev) (hown : w.ownsRow base 43 8 v n xs) (hn : n ≤ 20000) (hb : base ≤ w.heap.size) (ty : TypeId) :
    ∃ v' w', (Builtin.append_ #[22, 22] ty #[v, .slice (some ⟨w.heap.size, 0, none⟩) 1 1]).run Tryd.prog (w.alloc (.cells (evC e) 43)) = .ok v' w' ∧ w'.ownsRow base 43 8 v' (n + 1) (xs ++ evL e) ∧ (w.alloc (.cells (evC e) 43)).grownBy w' v.ownBlock ∧ (v'.ownBlock = v.ownBlock ∨ v'.ownBlock = some (w.alloc (.cells (evC e) 43)).heap.size) := by
  obtain ⟨i, hi, hz0, hz1, hz2⟩ := info_parts evE_info
  have hone : ∀ u ∈ evL e, u.oneCell' = true := by
    intro u hu
    simp only [evL, List.mem_cons, List.not_mem_nil, or_false] at hu
    rcases hu with rfl | rfl | rfl | rfl | rfl | rfl | rfl | rfl <;> rfl
  obtain ⟨v', w', hr, h2, h3, _, h5⟩ := run_append_own_at (P := Tryd.prog) (w := w.alloc (.cells (evC e) 43)) base 22 ty 43 i _ 8 88 Tryd.underlying22 hi hz0 hz1 hz2 rfl (by decide) v n xs (ownsRow_ext hown (ext_alloc _ _)) ⟨w.heap.size, 0, none⟩ 1 1 (evL e) rfl (fun j u hu => by
    have h9 := (Box.new w (evC e) 43).2 j
    rw [show ((⟨w.heap.size, 0, none⟩ : Addr).add j) = ⟨w.heap.size, j, none⟩ by simp only [Addr.add, Nat.zero_add]; first | rfl | (split <;> simp_all)]
    rw [h9]
    simpa [evL] using hu) hone (by unfold maxLen; omega) (by omega) (by simp; omega)
  exact ⟨v', w', hr, h2, h3, h5⟩
theorem wpList_rowT {P : Program} {w : World} {ops : Array Oper} {rest : List Oper} {o : Oper} {a : Act} {Q : Exit → Act → World → Prop} (hg : o.guard = none) (m x : Operand) (t : TypeId) (hop : o.op = Op.lookup t m x false)
    {K E : TypeId} (ko : KeyOk P K Value.string) (ht : P.underlying t = some (.map K E)) (hz : (zeroValue E).run P w = .ok (.slice none 0 0) w) {b : Nat} {T : RowT}
    (hm : a.eval m = .map (some b)) (h : MapIs Value.string rowV w b T) (y : ByteArray) (hx : a.eval x = .string y) (v : Value) (hv : ((look T y).map rowV).getD (.slice none 0 0) = v)
    (hK : wpList P ops Q rest (a.put o.dst v) w) : wpList P ops Q (o :: rest) a w := by
  refine wpList_lookup_a hg m x t false hop ko ht hz hm h y hx ?_
  rw [if_neg (by decide), hv]; exact hK
set_option maxRecDepth 100000 in
set_option maxHeartbeats 16000000 in
theorem outcomes_at (l : List Ev) (name : ByteArray) (a : Option Addr) (c : Nat) (w : World) (h20 : l.length ≤ 20000) (hs : Sl w (.slice a l.length c) l.length (l.flatMap evL)) :
    Calls Tryd.prog 16 #[.slice a l.length c, .string name] w fun e w' => ∃ (b : Nat) (T : RowT), e = .returned (.map (some b)) ∧ OutM w' w.heap.size b T name l ∧ Below w.heap.size w w' := by
  have hl := hs.len_le
  have HS := Lib.hid hs
  have hmm := @run_makeMap Tryd.prog
  clear hs
  go_enter Tryd.func16, Tryd.ntmps16
  go_upto_region 2 with (fail)
  refine wp_mapNew Value.string rowV fun W1 hbW1 hmW1 => ?_
  clear hmm
  obtain ⟨b, hb⟩ : ∃ z, w.heap.size = z := ⟨_, rfl⟩
  have hO1 : OutM W1 w.heap.size b [] name (l.take 0) := ⟨by omega, by rw [← hb]; exact hmW1, (by simp), (fun p hp => by cases hp), (fun p hp => by cases hp), (fun key => by simp [look_nil, outsK]), (fun p hp => by cases hp)⟩
  rw [hb]
  rw [hb] at hO1 hbW1
  clear hmW1
  go_wp2
  go_loopw [11] (fun i wr => ∃ (k : Nat) (T : RowT), k ≤ l.length ∧ i = .int .i64 k ∧ OutM wr b b T name (l.take k) ∧ Below b w wr) (fun i _ => l.length - (intOf i).toNat)
  case atStart => exact ⟨0, [], by omega, rfl, hO1, hbW1⟩
  case round =>
    clear hO1 hbW1
    obtain ⟨k, T, hk, rfl, hO, hbr⟩ := hrel
    by_cases hlt : k < l.length
    · have hgk := List.getElem?_eq_getElem hlt
      generalize l[k] = s at hgk
      have HG := Lib.hid hgk
      obtain ⟨b', o', rfl, e0, e1, e2, e3, e4, e5, e6, e7⟩ := ev_cells (HS.out.ext (by rw [hb]; exact hbr)) hgk
      have hk0 : (0 : Int) ≤ (k : Int) := Int.natCast_nonneg _
      have hk1 : (k : Int) < (l.length : Int) := by omega
      clear hgk
      go_upto_region 5 with (fail)
      clear e0 e1 e2 e3 e4 e5 e6 e7
      refine wp_box1 fun X hszX hbX hX => ?_
      have hBX : b ≤ wr.heap.size := Nat.le_trans hO.lo (Nat.le_of_lt hO.map.lt)
      have hOX := hO.ext hbX
      have hbw := hbr.trans (hbX.mono hBX)
      have HOX := Lib.hid hOX
      obtain ⟨g0, g1, g2, g3, g4, g5, g6, g7⟩ := box_ev hX
      have HNB : Hid (∀ key, (((look T key).map rowV).getD (.slice none 0 0)).ownBlock ≠ some wr.heap.size) := Lib.hid (fun key e9 => by
        have := ((hO.row key).1.lt _ e9).2
        omega)
      clear hO hbr hbX hszX hOX
      obtain ⟨eb, heb⟩ : ∃ z, wr.heap.size = z := ⟨_, rfl⟩
      rw [heb] at hX HNB hBX g0 g1 g2 g3 g4 g5 g6 g7 ⊢
      clear heb
      by_cases hkd : s.kind = 2
      · by_cases hnx : s.name = name
        · have HEX : Hid (isOutc name s = true) := Lib.hid (by unfold isOutc; rw [decide_eq_true hkd, decide_eq_true hnx]; rfl)
          have hkb : (s.kind == 2) = true := by simpa using hkd
          have hnb : (s.name.toList == name.toList) = true := by rw [hnx]; simp
          have hnb2 : s.name.toList = name.toList := by rw [hnx]
          clear hkd hnx
          go_upto_region 6 with (fail)
          obtain ⟨Z0, hZ0⟩ : ∃ Z9, Z9 = X.drew := ⟨_, rfl⟩
          have hbZ0 : Below X.heap.size X Z0 := by rw [hZ0]; exact (Below.refl _ _).drew
          have hO0 := HOX.out.ext hbZ0
          have hX0 := hX.ext hbZ0
          obtain ⟨zb, hzb⟩ : ∃ z, Z0.heap.size = z := ⟨_, rfl⟩
          obtain ⟨Z1, hZ1⟩ : ∃ Z9, Z9 = Z0.alloc (.cells (evC s) 43) := ⟨_, rfl⟩
          have hbZ1 : Below Z0.heap.size Z0 Z1 := by rw [hZ1]; exact ext_alloc _ _
          obtain ⟨VR, hVR⟩ : ∃ z, ((look T s.key).map rowV).getD (.slice none 0 0) = z := ⟨_, rfl⟩
          have hrow := (hO0.row s.key).1
          have hn20 : (outsK name (l.take k) s.key).length ≤ 20000 := Nat.le_trans (outsK_len _ _ _) (by rw [List.length_take]; omega)
          have hBZ0 : b ≤ Z0.heap.size := Nat.le_trans hO0.lo (Nat.le_of_lt hO0.map.lt)
          obtain ⟨v', Z2, hrun, hown, hgr, hat⟩ := ev_append s hrow hn20 hBZ0 22
          rw [hVR, hzb, ← hZ1] at hrun
          rw [hVR, ← hZ1] at hgr hat
          have hO1 := hO0.ext hbZ1
          have hX1 := hX0.ext hbZ1
          have hrow1 := (hO1.row s.key).1
          rw [hVR] at hrow1
          have hm2 := hO1.map.grown hgr (own_ne_map hrow1 hO1.map)
          have hX2 := box_grown' hX1 hgr (by rw [← hVR]; exact HNB.out s.key)
          have HPUT : Hid (∀ Z3, MapIs Value.string rowV Z3 b (putL T s.key (v', outsK name (l.take k) s.key ++ [s])) → Z2.mapTurned Z3 b → OutM Z3 b b (putL T s.key (v', outsK name (l.take k) s.key ++ [s])) name (l.take (k + 1))) := Lib.hid (fun Z3 hm3 ht3 => hO0.put HG.out HEX.out hbZ1 hVR hgr hown hat hm3 ht3)
          have hb1 := (hbw.trans (hbZ0.mono (Nat.le_of_lt (Nat.lt_of_le_of_lt HOX.out.lo HOX.out.map.lt)))).trans (hbZ1.mono hBZ0)
          have hb2 := hb1.grown hgr (Nat.le_trans hBZ0 hbZ1.size) (fun q hq => (hrow1.lt q hq).1)
          have HBT : Hid (∀ Z3, Z2.mapTurned Z3 b → Below b w Z3) := Lib.hid (fun Z3 ht3 => hb2.trans (turned_below ht3 (Nat.le_refl _)))
          have HCZ : ∀ k9, k9 ≤ 2 → (fun w' : World => Box w' eb (evC s) ∧ MapIs Value.string rowV w' b T) ([Z0, Z1, Z2].getD k9 X) := fun k9 hk9 => by
            match k9, hk9 with
            | 0, _ => exact ⟨hX0, hO0.map⟩
            | 1, _ => exact ⟨hX1, hO1.map⟩
            | 2, _ => exact ⟨hX2, hm2⟩
            | k9 + 3, h => omega
          have HZ0 := Lib.hid hZ0
          have HZ1 := Lib.hid hZ1
          have HZB : Hid (Value.slice (some ⟨Z0.heap.size, 0, none⟩) 1 1 = .slice (some ⟨zb, 0, none⟩) 1 1) := Lib.hid (by rw [hzb])
          have HRN := Lib.hid hrun
          have HVR := Lib.hid hVR
          clear hZ0 hZ1 hrun hVR hO0 hX0 hzb hbZ0 hbZ1 hrow hgr hat hown hO1 hX1 hrow1 hX2 hb1 hb2 hbw hX HOX HNB g0 g1 g2 g3 g4 g5 g6 g7
          refine Grow.wp_region_storest 10 2 [Z0, Z1, Z2] (fun w' => Box w' eb (evC s) ∧ MapIs Value.string rowV w' b T) [(fun v => v = .map (some b)), (fun v => v = .pointer (some ⟨eb, 4, none⟩)), (fun v => v = .string s.key), (fun v => v = .map (some b)), (fun v => v = .pointer (some ⟨eb, 4, none⟩)), (fun v => v = .string s.key), (fun v => v = VR), (fun v => v = .agg (evC s)), (fun v => v = .slice (some ⟨zb, 0, none⟩) 1 1), (fun v => v = v')] [[], [], [1], [], [], [4], [3, 5], [], [7], [6, 8]] [none, none, none, none, none, none, none, none, some 0, some 1] (by kernel_rfl) (by kernel_rfl) HZ0.out HCZ ⟨?s0, ?s1, ?s2, ?s3, ?s4, ?s5, ?s6, ?s7, ?s8, ?s9, trivial⟩ ?_
          all_goals clear HCZ
          case s0 =>
            intro w' hC
            show wpList _ _ _ _ _ _
            go_wp2
            exact ⟨rfl, rfl, rfl⟩
          case s1 =>
            intro w' hC
            show wpList _ _ _ _ _ _
            go_wp2
            exact ⟨rfl, rfl, rfl⟩
          case s2 =>
            intro w' hC v1 hv1
            obtain rfl : v1 = _ := hv1
            obtain ⟨g0, g1, g2, g3, g4, g5, g6, g7⟩ := box_ev hC.1
            show wpList _ _ _ _ _ _
            simp only [Grow.dstOf, List.getElem?_toArray, List.getElem?_cons_succ, List.getElem?_cons_zero, Option.bind_some, Act.put, List.setIfInBounds_toArray, List.set_cons_succ, List.set_cons_zero]
            go_wp2
            exact ⟨rfl, rfl, rfl⟩
          case s3 =>
            intro w' hC
            show wpList _ _ _ _ _ _
            go_wp2
            exact ⟨rfl, rfl, rfl⟩
          case s4 =>
            intro w' hC
            show wpList _ _ _ _ _ _
            go_wp2
            exact ⟨rfl, rfl, rfl⟩
          case s5 =>
            intro w' hC v1 hv1
            obtain rfl : v1 = _ := hv1
            obtain ⟨g0, g1, g2, g3, g4, g5, g6, g7⟩ := box_ev hC.1
            show wpList _ _ _ _ _ _
            simp only [Grow.dstOf, List.getElem?_toArray, List.getElem?_cons_succ, List.getElem?_cons_zero, Option.bind_some, Act.put, List.setIfInBounds_toArray, List.set_cons_succ, List.set_cons_zero]
            go_wp2
            exact ⟨rfl, rfl, rfl⟩
          case s6 =>
            intro w' hC v1 hv1 v2 hv2
            obtain rfl : v1 = _ := hv1
            obtain rfl : v2 = _ := hv2
            have hmC := hC.2
            show wpList _ _ _ _ _ _
            simp only [Grow.dstOf, List.getElem?_toArray, List.getElem?_cons_succ, List.getElem?_cons_zero, Option.bind_some, Act.put, List.setIfInBounds_toArray, List.set_cons_succ, List.set_cons_zero]
            refine wpList_rowT rfl _ _ 50 rfl str_ok Tryd.underlying50 (zero_rows _) rfl hmC s.key rfl VR HVR.out ?_
            go_wp2
            exact ⟨rfl, rfl, rfl⟩
          case s7 =>
            intro w' hC
            obtain ⟨g0, g1, g2, g3, g4, g5, g6, g7⟩ := box_ev hC.1
            show wpList _ _ _ _ _ _
            go_wp2
            exact ⟨rfl, rfl, rfl⟩
          case s8 =>
            intro v1 hv1
            obtain rfl : v1 = _ := hv1
            show wpList _ _ _ _ _ Z0
            simp only [Grow.dstOf, List.getElem?_toArray, List.getElem?_cons_succ, List.getElem?_cons_zero, Option.bind_some, Act.put, List.setIfInBounds_toArray, List.set_cons_succ, List.set_cons_zero]
            go_wp2
            exact ⟨HZB.out, HZ1.out.symm, rfl⟩
          case s9 =>
            intro v1 hv1 v2 hv2
            obtain rfl : v1 = _ := hv1
            obtain rfl : v2 = _ := hv2
            show wpList _ _ _ _ _ Z1
            simp only [Grow.dstOf, List.getElem?_toArray, List.getElem?_cons_succ, List.getElem?_cons_zero, Option.bind_some, Act.put, List.setIfInBounds_toArray, List.set_cons_succ, List.set_cons_zero]
            refine wpList_append_run rfl _ _ 22 rfl (xv := .slice (some ⟨zb, 0, none⟩) 1 1) (v' := v') rfl rfl HRN.out ?_
            go_wp2
            exact ⟨rfl, rfl, rfl⟩
          intro v0 h0 v1 h1 v2 h2 v3 h3 v4 h4 v5 h5 v6 h6 v7 h7 v8 h8 v9 h9
          obtain rfl : v0 = _ := h0 rfl
          obtain rfl : v2 = _ := h2 rfl
          obtain rfl : v9 = _ := h9 rfl
          show wpList _ _ _ [_] _ Z2
          simp only [Act.put, List.setIfInBounds_toArray, List.set_cons_succ, List.set_cons_zero]
          refine wpList_update_a rfl _ _ _ 50 rfl str_ok Tryd.underlying50 rfl hm2 s.key rfl (v9, outsK name (l.take k) s.key ++ [s]) rfl ?_
          intro Z3 hm3 ht3
          have hO3 := HPUT.out Z3 hm3 ht3
          have hb3 := HBT.out Z3 ht3
          clear HPUT HBT hm2 hm3 ht3
          go_wp2
          go_roundw
          case rel => exact ⟨k + 1, _, by omega, by go_num, hO3, hb3⟩
          case measure => simp [intOf]; omega
        · have HNO : Hid (isOutc name s = false) := Lib.hid (by unfold isOutc; rw [decide_eq_false hnx]; simp)
          have hnb : (s.name.toList == name.toList) = false := by rw [beq_eq_false_iff_ne, ByteArray.toList_eq, ByteArray.toList_eq]; exact fun h => hnx (bytes_ext h)
          have hnb2 : ¬ (s.name.toList = name.toList) := by rw [ByteArray.toList_eq, ByteArray.toList_eq]; exact fun h => hnx (bytes_ext h)
          have hkb : (s.kind == 2) = true := by simpa using hkd
          clear hnx hkd
          have hO2 := HOX.out.skip HG.out HNO.out
          clear HOX HNB
          go_wp2
          go_roundw
          case rel => exact ⟨k + 1, T, by omega, by go_num, hO2, hbw⟩
          case measure => simp [intOf]; omega
      · have HNO : Hid (isOutc name s = false) := Lib.hid (by unfold isOutc; rw [decide_eq_false hkd]; rfl)
        have hkb : (s.kind == 2) = false := by simpa using hkd
        clear hkd
        have hO2 := HOX.out.skip HG.out HNO.out
        clear HOX HNB
        go_wp2
        go_roundw
        case rel => exact ⟨k + 1, T, by omega, by go_num, hO2, hbw⟩
        case measure => simp [intOf]; omega
    · have hO2 : OutM wr b b T name l := by rw [List.take_of_length_le (by omega)] at hO; exact hO
      have HO2 := Lib.hid hO2
      clear hO hO2
      go_wp2
      go_ret
      exact ⟨b, T, rfl, by rw [hb]; exact HO2.out, by rw [hb]; exact hbr⟩
end Ex
end Go.Proofs.YtacchooggifnhaaDoor
namespace Go.Proofs.YtacchooggifnhaaDoor
open Go.RowKit
namespace Ex
theorem checkE_time {e : Ev} (h : checkE e = 0) : 0 ≤ e.time ∧ e.time ≤ 4000000000 := by
  unfold checkE at h
  by_cases h1 : nameB e.shard.data.toList = false
  · rw [if_pos h1] at h; cases h
  rw [if_neg h1] at h
  by_cases h2 : withinB e.number 1 1000000000000 = false
  · rw [if_pos h2] at h; cases h
  rw [if_neg h2] at h
  by_cases h3 : withinB e.kind 1 3 = false
  · rw [if_pos h3] at h; cases h
  rw [if_neg h3] at h
  by_cases h4 : withinB e.time 0 4000000000 = false
  · rw [if_pos h4] at h; cases h
  have : withinB e.time 0 4000000000 = true := by simpa using h4
  unfold withinB at this
  exact of_decide_eq_true this
theorem scan_all : ∀ (p : Option Ev) (l : List Ev), scanFrom p l = 0 → ∀ e ∈ l, checkE e = 0
  | _, [], _, e, he => by cases he
  | p, x :: l, h, e, he => by
    simp only [scanFrom] at h
    by_cases hx : checkE x = 0
    · rw [if_neg (by simp [hx])] at h
      have h' : scanFrom (some x) l = 0 := by
        have aux : ∀ (b : Bool) (y : Int), (if b = true then (8 : Int) else y) = 0 → y = 0 := fun b y hy => by cases b <;> simp_all
        exact aux _ _ h
      rcases List.mem_cons.1 he with rfl | he
      · exact hx
      · exact scan_all _ l h' e he
    · rw [if_pos hx] at h; omega
theorem checkL_each {l : List Ev} (h : checkL l = 0) : ∀ e ∈ l, checkE e = 0 := by
  unfold checkL at h
  by_cases h1 : 20000 < l.length
  · rw [if_pos h1] at h; cases h
  · rw [if_neg h1] at h
    by_cases h2 : scanFrom none l = 0
    · exact scan_all none l h2
    · rw [if_pos h2] at h; exact absurd h h2
end Ex
end Go.Proofs.YtacchooggifnhaaDoor
