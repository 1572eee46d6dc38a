/- The reference's merged. ReadLog of the reference: a log's lines. Printed by gen_logr.py. -/
import Derived.Test.YtbgbfjfboaajbaaGreatDoorEm18
import Derived.Test.YtbgbfjfboaajbaaGreatDoorEm19
import Derived.Test.YtbgbfjfboaajbaaGreatDoorEm11
import Derived.Test.YtbgbfjfboaajbaaGreatDoorEm17
namespace Go.Proofs.YtbgbfjfboaajbaaGreatDoor
open Go.RowKit
abbrev Spot := ByteArray × Int
abbrev spotV (s : Spot) : Value := .agg #[.string s.1, .int .i64 s.2]
abbrev evV (e : Ev) : Value := .agg (evC e)
def keyE (e : Ev) : Spot := (e.shard, e.number)
set_option maxHeartbeats 2000000 in
set_option maxRecDepth 100000 in
theorem equal_spot (x y : Spot) (w : World) : (Op.equal 73 (spotV x) (spotV y)).run Tryz.prog w = .ok (decide (x = y)) w := by
  have e1 : (Op.equalIn 10000 73 (spotV x) (spotV y)).run Tryz.prog w = .ok (decide (x = y)) w := by
    rw [run_equalIn_struct w 9999 73 _ _ (by kernel_rfl) (by kernel_rfl)]
    obtain ⟨x1, x2⟩ := x
    obtain ⟨y1, y2⟩ := y
    go_simp
    have ht : (x1.toList = y1.toList) ↔ x1 = y1 := ⟨toList_inj, fun h => by rw [h]⟩
    simp only [ht]
    by_cases h1 : x1 = y1 <;> by_cases h2 : x2 = y2 <;> simp [h1, h2]
  exact e1
theorem spot_ok : KeyOk Tryz.prog 73 spotV := by
  refine KeyOk.asking (kind := _) Tryz.underlying73 (fun e x w => ?_) (fun x y => rfl) equal_spot (fun x => ?_)
  · kernel_rfl
  · simp [Instr.sameBits]; rw [beq_toListBytes]; simp
theorem zero_ev (w : World) : (zeroValue 31).run Tryz.prog w = .ok (.agg #[.string ⟨#[]⟩, .int .i64 0, .int .i64 0, .int .i64 0, .string ⟨#[]⟩, .string ⟨#[]⟩, .int .i64 0, .int .i64 0]) w := by kernel_rfl
theorem Box.turned {w w' : World} {b m : Nat} {A : Array Value} (h : Box w b A) (ht : w.mapTurned w' m) : Box w' b A :=
  ⟨by rw [turned_size ht]; exact h.1, fun j => (turned_cell ht _).trans (h.2 j)⟩
/-- the eight cells of a block that is an event -/
theorem Box.ev {w : World} {b : Nat} {e : Ev} (h : Box w b (evC e)) : w.cell? ⟨b, 0, none⟩ = some (.string e.shard) ∧ w.cell? ⟨b, 1, none⟩ = some (.int .i64 e.number) ∧ w.cell? ⟨b, 2, none⟩ = some (.int .i64 e.kind) ∧ w.cell? ⟨b, 3, none⟩ = some (.int .i64 e.time) ∧
      w.cell? ⟨b, 4, none⟩ = some (.string e.key) ∧ w.cell? ⟨b, 5, none⟩ = some (.string e.name) ∧ w.cell? ⟨b, 6, none⟩ = some (.int .i64 e.arm) ∧ w.cell? ⟨b, 7, none⟩ = some (.int .i64 e.n) :=
  ⟨h.2 0, h.2 1, h.2 2, h.2 3, h.2 4, h.2 5, h.2 6, h.2 7⟩
theorem ordE_key {a b : Ev} : ordE a b = 0 ↔ keyE a = keyE b := by
  rw [ordE_zero]; unfold keyE; simp
/-- Where merging stands: the events so far, the map and the list. -/
structure MInv (V : List Ev) (l : List (Spot × Ev)) (O : List Ev) : Prop where
  hit : ∀ x ∈ V, look l (keyE x) = some x
  src : ∀ k e, look l k = some e → e ∈ V ∧ keyE e = k
  mem : ∀ x, x ∈ O ↔ x ∈ V
  apart : O.Pairwise (fun a b => ordE a b ≠ 0)
theorem MInv.start : MInv [] [] [] := ⟨(fun x h => by cases h), (fun k e h => by cases h), fun x => Iff.rfl, List.Pairwise.nil⟩
theorem MInv.same {V O : List Ev} {l : List (Spot × Ev)} {e : Ev} (h : MInv V l O) (hl : look l (keyE e) = some e) : MInv (V ++ [e]) l O where
  hit x hx := by
    rcases List.mem_append.1 hx with hx | hx
    · exact h.hit x hx
    · simp at hx; subst hx; exact hl
  src k x hx := ⟨List.mem_append_left _ (h.src k x hx).1, (h.src k x hx).2⟩
  mem x := by
    rw [h.mem, List.mem_append]
    exact ⟨.inl, fun hx => hx.elim id fun hx => by simp at hx; subst hx; exact (h.src _ _ hl).1⟩
  apart := h.apart
theorem MInv.new {V O : List Ev} {l : List (Spot × Ev)} {e : Ev} (h : MInv V l O) (hl : look l (keyE e) = none) : MInv (V ++ [e]) (putL l (keyE e) e) (O ++ [e]) where
  hit x hx := by
    rw [look_put]
    rcases List.mem_append.1 hx with hx | hx
    · have h1 := h.hit x hx
      by_cases hk : keyE x = keyE e
      · rw [hk, hl] at h1; cases h1
      · rw [if_neg hk]; exact h1
    · simp at hx; subst hx; rw [if_pos rfl]
  src k x hx := by
    rw [look_put] at hx
    by_cases hk : k = keyE e
    · rw [if_pos hk] at hx; cases hx; exact ⟨by simp, hk.symm⟩
    · rw [if_neg hk] at hx; exact ⟨List.mem_append_left _ (h.src k x hx).1, (h.src k x hx).2⟩
  mem x := by rw [List.mem_append, List.mem_append, h.mem]
  apart := by
    refine List.pairwise_append.2 ⟨h.apart, by simp, fun x hx y hy => ?_⟩
    simp at hy; subst hy
    intro h0
    have h1 := h.hit x ((h.mem x).1 hx)
    rw [ordE_key.1 h0, hl] at h1; cases h1
theorem MInv.clash {U V O : List Ev} {l : List (Spot × Ev)} {e x : Ev} (h : MInv V l O) (hl : look l (keyE e) = some x) (hne : x ≠ e) (hV : ∀ z ∈ V, z ∈ U) (he : e ∈ U) : ¬ NoClash U := by
  intro hn
  obtain ⟨h1, h2⟩ := h.src _ _ hl
  exact hne (hn x (hV x h1) e he (ordE_key.2 h2))
theorem sorted_asc {O R : List Ev} (hp : R.Perm O) (hs : R.Pairwise LeE) (ha : O.Pairwise (fun a b => ordE a b ≠ 0)) : Asc R := by
  have h1 : R.Pairwise (fun a b => ordE a b ≠ 0) := hp.symm.pairwise ha (fun {a b} h => by rw [ordE_anti a b]; omega)
  exact (hs.and h1).imp fun h => by have := h.1; have := h.2; show ordE _ _ < 0; omega
theorem wp_map1 {α β : Type} (kv : α → Value) (vv : β → Value) {P : Program} {c : Code} {Q : Exit → Act → World → Prop} {a : Act} {w : World}
    (h : ∀ W, Below w.heap.size w W → MapIs kv vv W w.heap.size [] → c.wp P Q a W) : c.wp P Q a (w.alloc (.map #[] 0)) :=
  h _ (ext_alloc _ _) (MapIs.made kv vv w)
theorem take_next {U : List Ev} {k : Nat} {e : Ev} (h : U[k]? = some e) : U.take (k + 1) = U.take k ++ [e] := by
  obtain ⟨hk, rfl⟩ := List.getElem?_eq_some_iff.1 h
  rw [List.take_succ_eq_append_getElem hk]
set_option maxRecDepth 100000 in
set_option maxHeartbeats 8000000 in
theorem ref7_merged_big (la lb : List Ev) (hla : la.length ≤ 4000000) (hlb : lb.length ≤ 4000000) (a b : Option Addr) (ca cb : Nat) (w : World)
    (sa : Sl w (.slice a la.length ca) la.length (la.flatMap evL)) (sb : Sl w (.slice b lb.length cb) lb.length (lb.flatMap evL)) :
    Calls Tryz.prog 26 #[.slice a la.length ca, .slice b lb.length cb] w (UnitePost w.heap.size (la ++ lb) w) := by
  have hmm := @run_makeMap Tryz.prog
  obtain ⟨U, hU⟩ : ∃ U, U = la ++ lb := ⟨_, rfl⟩
  have hc := fun W (hW : Below w.heap.size w W) => CCCatE.cat_new' W a b ca cb la lb (sa.ext hW) (sb.ext hW) (by omega)
  rw [← hU] at hc
  have HC : Aside _ := hc
  have hUl : U.length ≤ 8000000 := by rw [hU, List.length_append]; omega
  rw [← hU]
  clear hU hla hlb sa sb hc
  go_enter Tryz.func26, Tryz.ntmps26
  go_upto_region 3 with (fail)
  refine wp_map1 spotV evV fun W hbW hmW => ?_
  clear hmm
  go_wp2_with fail
  refine (HC.out W hbW).mono ?_
  rintro e wc ⟨a2, c2, rfl, s2, _, hbc⟩
  have hmap0 := hmW.ext hbc
  have hbc2 : Below w.heap.size w wc := ext_trans hbW hbc
  have hmlt : w.heap.size < wc.heap.size := hmap0.lt
  clear HC hbc hmW hbW
  go_wp2
  go_loopw [7, 19] (fun vo i wr => ∃ (k : Nat) (l : List (Spot × Ev)) (O : List Ev), k ≤ U.length ∧ O.length ≤ k ∧ i = .int .i64 k ∧ wr.ownsRow wc.heap.size 31 8 vo O.length (O.flatMap evL) ∧ MapIs spotV evV wr w.heap.size l ∧ Hid (MInv (U.take k) l O) ∧ CellsKept wc.heap.size wc wr ∧ Below w.heap.size w wr) (fun _ i _ => U.length - (intOf i).toNat)
  case atStart => exact ⟨0, [], [], by omega, by simp, rfl, World.ownsRow_nil _ _ _ _, hmap0, MInv.start, CellsKept.refl _ _, hbc2⟩
  case round =>
    clear hmap0 hbc2
    obtain ⟨k, l, O, hk, hO, rfl, hown, hmap, HI, hkept, hbw⟩ := hrel
    by_cases hlt : k < U.length
    · have hgk := List.getElem?_eq_getElem hlt
      generalize U[k] = s at hgk
      obtain ⟨b', o', rfl, e0, e1, e2, e3, e4, e5, e6, e7⟩ := ev_cells (hkept.sl s2) hgk
      have HG := Lib.hid hgk
      clear hgk
      go_upto_region 6 with (fail)
      clear e0 e1 e2 e3 e4 e5 e6 e7
      refine wp_box1 fun X hszX hbX hX => ?_
      have hownX := ownsRow_ext hown hbX
      have hmapX := hmap.ext hbX
      have hkX := hkept.ext (Nat.le_refl _) hbX
      have hbwX := hbw.trans (hbX.mono hbw.size)
      clear hszX hown hmap hkept hbw hbX
      obtain ⟨g0, g1, _⟩ := hX.ev
      go_upto_region 7 with (fail)
      clear g0 g1
      refine wp_box1 fun Y hszY hbY hY => ?_
      have hownY := ownsRow_ext hownX hbY
      have hmapY := hmapX.ext hbY
      have hkY := hkX.ext (Nat.le_refl _) hbY
      have hbwY := hbwX.trans (hbY.mono hbwX.size)
      have hXY := hX.ext hbY
      have k0 := hY.2 0
      have k1 := hY.2 1
      clear hszY hownX hmapX hkX hbwX hbY hX
      cases hlk : look l (keyE s) with
      | none =>
        have HN := Lib.hid (HI.out.new hlk)
        have HT := Lib.hid (take_next HG.out)
        go_upto_region 8 with (at_lookup; refine wpList_lookup_miss rfl _ _ 70 rfl spot_ok Tryz.underlying70 (zero_ev _) rfl hmapY (keyE s) rfl hlk ?_)
        clear hlk k0 k1
        refine wp_box1 fun Z hszZ hbZ hZ => ?_
        have hownZ := ownsRow_ext hownY hbZ
        have hmapZ := hmapY.ext hbZ
        have hkZ := hkY.ext (Nat.le_refl _) hbZ
        have hbwZ := hbwY.trans (hbZ.mono hbwY.size)
        have hXZ := hXY.ext hbZ
        have k0 := (hY.ext hbZ).2 0
        have k1 := (hY.ext hbZ).2 1
        obtain ⟨g0, g1, g2, g3, g4, g5, g6, g7⟩ := hXZ.ev
        clear hszZ hownY hmapY hkY hbwY hbZ hXY hY hZ
        go_upto_region 12 with (at_mapUpdate; refine wpList_update_a rfl _ _ _ 70 rfl spot_ok Tryz.underlying70 rfl hmapZ (keyE s) rfl s rfl ?_; intro w5 hm5 ht5)
        have hown5 := ownsRow_turned hownZ ht5
        have hk5 := hkZ.turned ht5
        have hbw5 := hbwZ.trans (turned_below ht5 (Nat.le_refl _))
        have hX5 := hXZ.turned ht5
        clear g0 g1 g2 g3 g4 g5 g6 g7 k0 k1 hownZ hkZ hbwZ hXZ ht5 hmapZ
        obtain ⟨g0, g1, g2, g3, g4, g5, g6, g7⟩ := hX5.ev
        have hsz5 := hk5.1
        have HO := Lib.hid (fun k hk => (hown5.lt k hk).1)
        go_wp2_with (at_builtin; refine wpList_append_sl rfl _ _ 22 rfl wc.heap.size 31 Tryz.underlying22 CCCatE.e_info rfl (by decide) rfl (ownsRow_ext hown5 (ext_alloc _ _)) rfl (Sl.new _ (evC s) _ 1 1 (by omega) (by decide)) rfl (evL_one s) (by unfold maxLen; omega) (by omega) (by simp; omega) ?_; intro v7 w7 hown7 hg7 _)
        have hx7 : Below wc.heap.size w5 w7 := ((ext_alloc w5 _).mono hsz5).grown hg7 (by simp; omega) HO.out
        have hown8 : w7.ownsRow wc.heap.size 31 8 v7 (O ++ [s]).length ((O ++ [s]).flatMap evL) := by
          rw [show (O ++ [s]).flatMap evL = O.flatMap evL ++ (evC s).toList by rw [List.flatMap_append]; simp [evL], List.length_append]; exact hown7
        have hm8 := hm5.below hx7 hmlt
        have hk8 := hk5.below hx7
        have hbw8 := hbw5.trans (hx7.mono (by omega))
        have HI8 : Hid (MInv (U.take (k + 1)) (putL l (keyE s) s) (O ++ [s])) := by rw [HT.out]; exact HN
        clear g0 g1 g2 g3 g4 g5 g6 g7 hown7 hg7 hx7 hown5 hm5 hk5 hbw5 hX5
        go_wp2
        go_roundw
        case rel => exact ⟨k + 1, _, O ++ [s], by omega, by rw [List.length_append]; simp; omega, by go_num, hown8, hm8, HI8, hk8, hbw8⟩
        case measure => simp [intOf]; omega
      | some x =>
        have hn := neq_ev x s
        have HT := Lib.hid (take_next HG.out)
        have HL := Lib.hid hlk
        go_upto_region 8 with (at_lookup; refine wpList_lookup_hit rfl _ _ 70 rfl spot_ok Tryz.underlying70 (zero_ev _) rfl hmapY (keyE s) rfl x hlk ?_)
        clear hlk k0 k1
        refine wp_box1 fun Z hszZ hbZ hZ => ?_
        have hownZ := ownsRow_ext hownY hbZ
        have hmapZ := hmapY.ext hbZ
        have hkZ := hkY.ext (Nat.le_refl _) hbZ
        have hbwZ := hbwY.trans (hbZ.mono hbwY.size)
        have hXZ := hXY.ext hbZ
        obtain ⟨g0, g1, g2, g3, g4, g5, g6, g7⟩ := hXZ.ev
        obtain ⟨f0, f1, f2, f3, f4, f5, f6, f7⟩ := hZ.ev
        have hg9 := fun op a b w => guard_ev op a b x s w
        clear hszZ hownY hmapY hkY hbwY hbZ hXY hY hZ hXZ
        by_cases hxs : x = s
        · rw [show (!decide (x = s)) = false by simp [hxs]] at hn
          have HI8 : Hid (MInv (U.take (k + 1)) l O) := by rw [HT.out]; exact HI.out.same (by rw [HL.out, hxs])
          clear hxs
          go_wp2
          go_roundw
          case rel => exact ⟨k + 1, l, O, by omega, by omega, by go_num, hownZ, hmapZ, HI8, hkZ, hbwZ⟩
          case measure => simp [intOf]; omega
        · rw [show (!decide (x = s)) = true by simp [hxs]] at hn
          have HP : Hid (UnitePost w.heap.size U w (.returned (.tuple #[.slice none 0 0, .bool false])) Z) := .inr ⟨rfl, HI.out.clash HL.out hxs (fun z hz => List.mem_of_mem_take hz) (List.mem_of_getElem? HG.out), hbwZ⟩
          clear hxs
          go_wp2
          go_ret2
          exact HP.out
    · have hkU : k = U.length := by omega
      have HK : Hid (MInv U l O) := by have := HI.out; rw [hkU, List.take_length] at this; exact this
      clear hkU HI
      obtain ⟨a5, c5, rfl, _⟩ := Sl.ofOwn hown
      have hso := ref7_sorted (O.length + 1) O a5 c5 wr (Nat.lt_succ_self _) (by omega) (Sl.ofOwn hown)
      clear hown hmap hkept
      go_wp2_with fail
      refine hso.mono ?_
      rintro e w4 ⟨R, a6, c6, rfl, s6, hp6, hq6, hb6⟩
      have HP : Hid (UnitePost w.heap.size U w (.returned (.tuple #[.slice a6 R.length c6, .bool true])) w4) := .inl ⟨R, a6, c6, rfl, s6, sorted_asc hp6 hq6 HK.out.apart, fun x => (hp6.mem_iff).trans (HK.out.mem x), hbw.trans (hb6.mono hbw.size)⟩
      clear hp6 hq6 hso s6
      go_wp2
      go_ret2
      exact HP.out
end Go.Proofs.YtbgbfjfboaajbaaGreatDoor
namespace Go.Proofs.YtbgbfjfboaajbaaGreatDoor
open Go.RowKit
namespace Tx
set_option maxRecDepth 100000 in
set_option maxHeartbeats 16000000 in
theorem refReadLog_at (s : ByteArray) (w : World) (hm : Ml w) : Calls Tryz.prog 9 #[.string s] w (RdG s.data.toList w) := by
 have Hhm := Lib.hid hm
 clear hm
 have HP := Lib.hid evt_info
 have hsl0 : s.data.toList.length = s.size := Array.length_toList
 have HSL0 := Lib.hid hsl0
 go_enter Tryz.func9, Tryz.ntmps9
 by_cases hlong : 3000000 < s.size
 ·have HN := Lib.hid (logR_long (t := s.data.toList) (by omega))
  have hlong' : (3000000 : Int) < (s.size : Int) := by omega
  clear hlong hsl0
  go_wp2
  exact bodyPost_ret (v := .tuple #[.slice none 0 0, .int .i64 0, .int .i64 2]) (by simp [results, Tryz.results9, go_sem]) rfl (rdG_bad HN.out (Below.refl _ _))
 have HS : Hid (s.size ≤ 3000000) := Lib.hid (by omega)
 have HL0 : Hid (¬ 3000000 < s.data.toList.length) := Lib.hid (by omega)
 have hlong' : ¬ (3000000 : Int) < (s.size : Int) := by omega
 clear hlong hsl0
 go_wp2
 go_loopw [0, 5, 6] (fun v0 v5 v6 wr => ∃ (tx : ByteArray) (acc : List Ev) (n : Nat), v0 = .string tx ∧ v6 = .int .i64 (n : Int) ∧ Hid (acc.length = n) ∧ wr.ownsRow w.heap.size 31 8 v5 n (acc.flatMap evL) ∧ Hid (rdEs 1 (cutL 10 s.data.toList) = apE acc (rdEs (n + 1) (cutL 10 tx.data.toList))) ∧ Hid (∀ m ∈ acc, m.ok) ∧ n + tx.size ≤ s.size ∧ Below w.heap.size w wr) (fun v0 _ _ _ => szOf v0)
 case atStart => exact ⟨s, [], 0, rfl, rfl, rfl, World.ownsRow_nil _ _ _ _, Lib.hid (apE_nil _).symm, Lib.hid (fun m hm => by cases hm), by omega, Below.refl _ _⟩
 case round =>
  obtain ⟨tx, acc, n, rfl, rfl, HLN, hown, HR, HOK, hsz, hb⟩ := hrel
  have hn20 : n ≤ 3000000 := by have := HS.out; omega
  have Hn20 := Lib.hid hn20
  by_cases h0 : tx.size = 0
  ·have hnil := nil_of h0
   have hem : (tx.toList == []) = true := by rw [ByteArray.toList_eq, hnil]; rfl
   have hem3 : tx.toList = [] := by rw [ByteArray.toList_eq, hnil]
   have HA : Hid (∀ x f, LogL acc x f → LogR s.data.toList x 0 f) := Lib.hid (fun x f h => logR_all HL0.out (by rw [HR.out, hnil, rdEs_end]; show Sum.inl (acc ++ []) = _; rw [List.append_nil]) h)
   obtain rfl : acc.length = n := HLN.out
   have hsl := Sl.ofOwn hown
   obtain ⟨a5, c5, rfl, -⟩ := id hsl
   clear hnil hsl HR HLN h0 hsz
   go_wp2
   go_loopw [50] (fun i wr => ∃ k : Nat, k ≤ acc.length ∧ i = .int .i64 k ∧ wr.ownsRow w.heap.size 31 8 (.slice a5 acc.length c5) acc.length (acc.flatMap evL) ∧ Hid (faultsE acc = faultsE (acc.drop k)) ∧ Below w.heap.size w wr) (fun i _ => acc.length - (intOf i).toNat)
   case atStart => exact ⟨0, by omega, rfl, hown, Lib.hid rfl, hb⟩
   case round =>
    clear hown hb
    obtain ⟨k, hk, rfl, hown, HK, hbr⟩ := hrel
    by_cases hlt : k < acc.length
    ·have hgk := List.getElem?_eq_getElem hlt
     have hmo := HOK.out _ (List.getElem_mem hlt)
     generalize acc[k] = m at hgk hmo
     have HST := Lib.hid (faults_stepE hgk)
     obtain ⟨b, o, rfl, e0, e1, e2, e3, e4, e5, e6, e7⟩ := event_cells (Sl.ofOwn hown) hgk
     have hk0 : (0 : Int) ≤ (k : Int) := Int.natCast_nonneg _
     have hk1 : (k : Int) < (acc.length : Int) := by omega
     have HMO := Lib.hid hmo
     clear hgk hmo
     go_upto_region 15 with (fail)
     clear e0 e1 e2 e3 e4 e5 e6 e7
     refine wp_box1 fun X hszX hbX hM => ?_
     obtain ⟨_, hM2⟩ := id hM
     have hown2 := ownsRow_ext hown hbX
     clear hM hown hszX
     go_wp2_with fail
     refine (ref7_Check m HMO.out X).mono ?_
     rintro e w2 ⟨rfl, hb2⟩
     have hown3 := ownsRow_ext hown2 hb2
     have hb3 := ext_trans hbr (ext_trans hbX hb2)
     obtain ⟨f, hf⟩ : ∃ z, checkE m = z := ⟨_, rfl⟩
     rw [hf] at HST ⊢
     clear hM2 hown2 hbr hbX hb2 hf
     by_cases hf0 : f = 0
     ·subst hf0
      have HK2 : Hid (faultsE acc = faultsE (acc.drop (k + 1))) := Lib.hid (HK.out.trans (HST.out.trans (if_pos rfl)))
      clear HK HST
      go_wp2
      go_roundw
      case rel => exact ⟨k + 1, by omega, by go_num, hown3, HK2, hb3⟩
      case measure => simp [intOf]; omega
     ·have hne : (f != 0) = true := by simpa using hf0
      have HFA : Hid (faultsE acc = f) := Lib.hid (HK.out.trans (HST.out.trans (if_neg hf0)))
      have HN := Lib.hid (HA.out _ _ (logL_fault (by rw [HFA.out]; exact hf0)))
      rw [HFA.out] at HN
      clear HK HST hf0 hown3
      go_wp2
      exact bodyPost_ret (v := .tuple #[.slice none 0 0, .int .i64 0, .int .i64 f]) (by simp [results, Tryz.results9, go_sem]) rfl (rdG_bad HN.out hb3)
    ·have HF0 : Hid (faultsE acc = 0) := Lib.hid (HK.out.trans (by rw [List.drop_eq_nil_of_le (by omega)]; rfl))
     obtain ⟨wy, hwy⟩ : ∃ z, z = wr := ⟨_, rfl⟩
     subst hwy
     have hown5 := hown
     have hby := hbr
     clear hown hbr HK
     go_wp2_with fail
     refine (ref7_merged_big acc [] (by have := Hn20.out; omega) (by simp) a5 none c5 0 wy (Sl.ofOwn hown5) (Sl.nil _)).mono ?_
     rintro e w3 hU
     have HU := Lib.hid hU
     clear hU
     rcases HU.out with ⟨C, a6, c6, rfl, hs6, hasc, hmem, hb6⟩ | ⟨rfl, hcl, hb6⟩
     ·have hmem2 : ∀ x, x ∈ C ↔ x ∈ acc := fun x => by rw [hmem x, List.append_nil]
      have HASC := Lib.hid hasc
      have HMEM := Lib.hid hmem2
      have HS6 := Lib.hid hs6
      have hb7 := hby.trans (hb6.mono hby.size)
      clear hasc hmem hmem2 hs6 hb6 hby hown5 HU
      go_wp2_with fail
      refine (ref7_CheckLog C (fun e he => HOK.out e ((HMEM.out e).1 he)) a6 c6 w3 HS6.out).mono ?_
      rintro e w4 ⟨rfl, hb8⟩
      have hb9 := ext_trans hb7 hb8
      have HS7 := Lib.hid (HS6.out.ext hb8)
      obtain ⟨f, hf⟩ : ∃ z, checkL C = z := ⟨_, rfl⟩
      have HF := Lib.hid hf
      rw [hf]
      clear hf hb7 hb8 HS6
      by_cases hf0 : f = 0
      ·subst hf0
       have HN := Lib.hid (HA.out _ _ (logL_yes HF0.out HASC.out HMEM.out HF.out))
       go_wp2
       exact bodyPost_ret (v := .tuple #[.slice a6 C.length c6, .int .i64 0, .int .i64 0]) (by simp [results, Tryz.results9, go_sem]) rfl (⟨C, a6, c6, 0, 0, rfl, HS7.out, fun e he => HOK.out e ((HMEM.out e).1 he), HN.out, hb9⟩)
      ·have hne : (f != 0) = true := by simpa using hf0
       have HN := Lib.hid (HA.out _ _ (logL_no HF0.out HASC.out HMEM.out (by rw [HF.out]; exact hf0)))
       rw [HF.out] at HN
       clear hf0
       go_wp2
       exact bodyPost_ret (v := .tuple #[.slice none 0 0, .int .i64 0, .int .i64 f]) (by simp [results, Tryz.results9, go_sem]) rfl (rdG_bad HN.out hb9)
     ·have HN := Lib.hid (HA.out _ _ (logL_clash HF0.out (by rw [List.append_nil] at hcl; exact hcl)))
      have hb7 := hby.trans (hb6.mono hby.size)
      clear hcl hb6 hby hown5 HU
      go_wp2
      exact bodyPost_ret (v := .tuple #[.slice none 0 0, .int .i64 0, .int .i64 13]) (by simp [results, Tryz.results9, go_sem]) rfl (rdG_bad HN.out hb7)
  ·have hem := hem_of h0
   have hem3 : ¬ (tx.toList = []) := fun h => by rw [h] at hem; cases hem
   have hne : tx.data.toList ≠ [] := fun h => hem3 (by rw [ByteArray.toList_eq]; exact h)
   obtain ⟨hd, tl, hc⟩ : ∃ hd tl, cut1 10 tx.data.toList = (hd, tl) := ⟨_, _, rfl⟩
   have HC := Lib.hid hc
   have HNE := Lib.hid hne
   have hlen := cut1_size hc
   rw [show tx.data.toList.length = tx.size from Array.length_toList] at hlen
   have HLEN := Lib.hid hlen
   clear hne hlen h0
   go_wp2_with fail
   refine (cut_at tx 10 (by have := HS.out; omega) wr (Hhm.out.ext hb)).mono ?_
   rintro e w1 ⟨rfl, hb1⟩
   rw [hc]
   have hown1 := ownsRow_ext hown hb1
   clear hc hown
   go_wp2_with fail
   refine (refread_at (stB hd) (by rw [stB_size]; have := HS.out; have := HLEN.out.1; omega) w1 (Hhm.out.ext (ext_trans hb hb1))).mono ?_
   rintro e w2 ⟨x, b, rfl, hx, hcs, hb2⟩
   have HX := Lib.hid hx
   have HCS : Hid ((readO hd = some x ∧ b = true) ∨ (readO hd = none ∧ b = false)) := Lib.hid hcs
   have hown2 := ownsRow_ext hown1 hb2
   have hb4 := ext_trans hb (ext_trans hb1 hb2)
   clear hx hcs hown1 hb1 hb2 hb
   go_upto_region 9 with (fail)
   refine wp_box1 fun X hszX hbX hA => ?_
   have hown3 := ownsRow_ext hown2 hbX
   have hb5 := ext_trans hb4 hbX
   have hsz5 := hb5.size
   clear hown2 hb4 hbX hszX
   cases b
   ·have HN : Hid (LogR s.data.toList [] ((n : Int) + 1) 10) := Lib.hid (logR_line (i := n + 1) HL0.out (by
     rw [HR.out]
     have hq : readO hd = none := by rcases HCS.out with ⟨_, h⟩ | ⟨h, _⟩; cases h; exact h
     cases tl with
     | none => rw [rdEs_last HNE.out HC.out]; rfl
     | some r => rw [rdEs_bad HC.out hq]; rfl))
    clear HR HCS hown3
    go_wp2
    exact bodyPost_ret (v := .tuple #[.slice none 0 0, .int .i64 ((n : Int) + 1), .int .i64 10]) (by simp [results, Tryz.results9, go_sem]) rfl (rdG_bad HN.out hb5)
   ·have HQ : Hid (readO hd = some x) := Lib.hid (by rcases HCS.out with ⟨h, _⟩ | ⟨_, h⟩; exact h; cases h)
    clear HCS
    cases tl with
    | none =>
     have HN : Hid (LogR s.data.toList [] ((n : Int) + 1) 10) := Lib.hid (logR_line (i := n + 1) HL0.out (by rw [HR.out, rdEs_last HNE.out HC.out]; rfl))
     clear HR hown3
     simp only [Option.getD_none, Option.isSome_none]
     go_wp2
     exact bodyPost_ret (v := .tuple #[.slice none 0 0, .int .i64 ((n : Int) + 1), .int .i64 10]) (by simp [results, Tryz.results9, go_sem]) rfl (rdG_bad HN.out hb5)
    | some r =>
     have HR2 : Hid (rdEs 1 (cutL 10 s.data.toList) = apE (acc ++ [x]) (rdEs (n + 1 + 1) (cutL 10 r))) := Lib.hid (by rw [HR.out, rdEs_more HC.out HQ.out, apE_more])
     have hr : (stB r).size < tx.size := by rw [stB_size]; exact HLEN.out.2 r rfl
     clear HR HQ HC
     simp only [Option.getD_some, Option.isSome_some]
     obtain ⟨_, hA2⟩ := id hA
     clear hA
     go_wp2_with (at_builtin; refine wpList_append_sl rfl _ _ 22 rfl w.heap.size 31 Tryz.underlying22 HP.out rfl (by decide) rfl (ownsRow_ext hown3 (ext_alloc _ _)) rfl (Sl.new X _ _ 1 1 (by omega) (by decide)) rfl (by intro u hu; simp at hu; rcases hu with rfl | rfl | rfl | rfl | rfl | rfl | rfl | rfl <;> rfl) (by unfold maxLen; omega) (by omega) (by simp; omega) ?_; intro v7 w7 hown7 hg7 _)
     have hL : acc.flatMap evL ++ evL x = (acc ++ [x]).flatMap evL := by rw [List.flatMap_append]; simp
     have hown8 : w7.ownsRow w.heap.size 31 8 v7 (n + 1) ((acc ++ [x]).flatMap evL) := by rw [← hL]; exact hown7
     have hb8 : Below w.heap.size w w7 := (ext_trans hb5 (ext_alloc _ _)).grown hg7 (by simp; omega) (fun q hq => (hown3.lt q hq).1)
     have HLN2 : Hid ((acc ++ [x]).length = n + 1) := Lib.hid (by rw [List.length_append, HLN.out]; rfl)
     have HOK2 : Hid (∀ m ∈ acc ++ [x], m.ok) := Lib.hid (fun m hm => by
      rcases List.mem_append.1 hm with hm | hm
      ·exact HOK.out m hm
      ·obtain rfl := List.mem_singleton.1 hm; exact HX.out)
     clear hown7 hg7 hown3 hb5 hL hA2
     go_wp2
     go_roundw
     case rel => exact ⟨stB r, acc ++ [x], n + 1, rfl, by go_num, HLN2, hown8, HR2, HOK2, by omega, hb8⟩
     case measure => exact hr
end Tx
end Go.Proofs.YtbgbfjfboaajbaaGreatDoor
