/- slices.Clone at values and at fields. Printed by gen_vclo.py. count of package value: the parts of a value, and its levels, in 64 bits. Printed by gen_vcnt.py. Xcopy of package value. Printed by gen_vcp.py. -/
import Derived.Test.YtbhcfmdogdaodaaGreatDoorRz03
import Derived.Deep.OwnRows
import Derived.Deep.DeepAppendRoom
import Derived.Test.YtbhcfmdogdaodaaGreatDoorRz01
import Derived.Deep.Cut
import Derived.Deep.DeepCutAuto
import Derived.Test.YtbhcfmdogdaodaaGreatDoorRz04
import Derived.Test.YtbhcfmdogdaodaaGreatDoorRz02
import Derived.Deep.RegionWith
namespace Go.Proofs.YtbhcfmdogdaodaaGreatDoor
open Go.RowKit
namespace Fd
theorem vI : (Tryz.prog.info? 25).map (fun i => (i.zero, i.size, i.bytes)) = some (some (.agg #[.int .i64 0, .int .i64 0, .string ⟨#[]⟩, .slice none 0 0, .slice none 0 0]), 5, 80) := by kernel_rfl
theorem fI : (Tryz.prog.info? 54).map (fun i => (i.zero, i.size, i.bytes)) = some (some (.agg #[.string ⟨#[]⟩, .int .i64 0, .int .i64 0, .string ⟨#[]⟩, .slice none 0 0, .slice none 0 0]), 6, 96) := by kernel_rfl
theorem cloneV_nil (w : World) : Calls Tryz.prog 76 #[.slice none 0 0] w fun e w' => e = .returned (.slice none 0 0) ∧ w = w' := by
  have hnil := fun wx => Lib.run_eql_slice_nil (P := Tryz.prog) wx 22 25 none 0 0 0 0 Tryz.underlying22
  go_enter Tryz.func76, Tryz.ntmps76
  go_wp2
  go_ret
  exact ⟨rfl, rfl⟩
set_option maxRecDepth 100000 in
theorem cloneV_at (n : Nat) (xs : List Value) (a : Option Addr) (c : Nat) (w : World) (hs : Sl w (.slice a n c) n xs) (hl : xs.length = n * 5) (h1 : ∀ u ∈ xs, u.oneCell' = true) (hb : n * 80 ≤ 140737488355328) :
    Calls Tryz.prog 76 #[.slice a n c] w fun e w' => ∃ a' c', e = .returned (.slice a' n c') ∧ w'.ownsRow w.heap.size 25 5 (.slice a' n c') n xs ∧ Below w.heap.size w w' := by
  have hnil := fun wx => Lib.run_eql_slice_nil (P := Tryz.prog) wx 22 25 a n c 0 0 Tryz.underlying22
  have HB := Lib.hid vI
  cases a with
  | none =>
    obtain ⟨_, _, hv, k1, _, h4, _⟩ := hs
    cases hv
    have hc0 := h4 rfl
    subst hc0
    obtain rfl : n = 0 := by omega
    have hx : xs = [] := List.length_eq_zero_iff.1 (by omega)
    subst hx
    refine (cloneV_nil w).mono ?_
    rintro e w' ⟨rfl, rfl⟩
    exact ⟨none, 0, rfl, World.ownsRow_nil _ _ _ _, Below.refl _ _⟩
  | some p =>
    have hns : n ≤ maxLen := by obtain ⟨_, _, hv, k1, k2, _⟩ := hs; cases hv; omega
    go_enter Tryz.func76, Tryz.ntmps76
    have hown0 : (w.alloc (Obj.cells #[] 25)).ownsRow w.heap.size 25 5 (.slice (some ⟨w.heap.size, 0, none⟩) 0 0) 0 [] := ⟨rfl, .inr ⟨w.heap.size, 0, #[], rfl, Nat.le_refl _, heap_alloc_new w _, Nat.le_refl _, Nat.zero_le _, rfl, rfl⟩⟩
    have hs2 := hs.ext (w' := w.alloc (Obj.cells #[] 25)) (by go_grown)
    go_wp2_with (at_builtin; refine wpList_append_sl rfl _ _ 22 rfl w.heap.size 25 Tryz.underlying22 HB.out rfl (by decide) rfl hown0 rfl hs2 ?c1 h1 ?c2 ?c3 ?c4 ?_; rotate_left 4; intro v2 w2 hown2 hg2 hv2)
    case c1 => exact hl
    case c2 => omega
    case c3 => omega
    case c4 => simp
    have hb2 : Below w.heap.size w w2 := Below.grown (show Below w.heap.size w (w.alloc (Obj.cells #[] 25)) by go_grown) hg2 (by simp) (fun k e => by cases e; exact Nat.le_refl _)
    rw [List.nil_append, Nat.zero_add] at hown2
    obtain ⟨ga, cap, rfl⟩ : ∃ ga cap, v2 = .slice ga n cap := by
      obtain ⟨h1, ⟨rfl, h2⟩ | ⟨g, cap, cur, rfl, _⟩⟩ := hown2
      · exact ⟨none, 0, by rw [h2]⟩
      · exact ⟨_, cap, rfl⟩
    clear hown0 hs2 hg2 hv2
    go_wp2
    go_ret
    exact ⟨ga, cap, rfl, hown2, hb2⟩
end Fd
end Go.Proofs.YtbhcfmdogdaodaaGreatDoor
namespace Go.Proofs.YtbhcfmdogdaodaaGreatDoor
open Go.RowKit
namespace Fd
open _root_.Go.Proofs.YtbhcfmdogdaodaaGreatDoor.Nt (RH RH.cell RH.box RH.lt RH.new RH.ext RH.fre RH.set RH.other)
open _root_.Go.Proofs.YtbhcfmdogdaodaaGreatDoor.Rw (All2 All2.get wpList_load_agg wp_stored fl_at)
theorem wp_cnt3 {P : Program} {c : Code} {Q : Exit → Act → World → Prop} {a : Act} {w : World} {A B C : Array Value} {t u v : TypeId}
    (h : ∀ W, Below w.heap.size w W → RH W w.heap.size A t → RH W (w.heap.size + 1) B u → RH W (w.heap.size + 2) C v → c.wp P Q a W) : c.wp P Q a (((w.alloc (.cells A t)).alloc (.cells B u)).alloc (.cells C v)) := by
  refine h _ (by go_grown) (((RH.new w A t).ext (ext_alloc _ _)).ext (ext_alloc _ _)) ?_ ?_
  · have := RH.new (w.alloc (.cells A t)) B u
    exact RH.ext (by simpa using this) (ext_alloc _ _)
  · have := RH.new ((w.alloc (.cells A t)).alloc (.cells B u)) C v
    simpa using this
theorem load_int {P : Program} {ty : TypeId} {w : World} {a : Addr} {v : Value} (hu : ∃ k, P.underlying ty = some (.int k)) (h : w.cell? a = some v) : (loadVar ty a).run P w = .ok v w := by
  obtain ⟨k, hu⟩ := hu
  have hagg : (isAgg ty).run P w = .ok false w := by
    unfold isAgg
    rw [Sem.run_bind, run_underlying hu w]
    rfl
  simp [loadVar, Sem.run_bind, hagg, h]
theorem results_cells2 {P : Program} {fn : Func} {p u : Tmp} {t1 t2 : TypeId} (h : fn.results = #[.cell p t1, .cell u t2]) (tmps : Array Value) (w : World) {a b : Addr} {v v' : Value}
    (h1 : tmps.getD p undef = .pointer (some a)) (h2 : tmps.getD u undef = .pointer (some b)) (l1 : w.cell? a = some v) (l2 : w.cell? b = some v')
    (k1 : ∃ k, P.underlying t1 = some (.int k)) (k2 : ∃ k, P.underlying t2 = some (.int k)) : (results fn tmps).run P w = .ok (.tuple #[v, v']) w := by
  have h1' : tmps[p]?.getD undef = .pointer (some a) := by simpa using h1
  have h2' : tmps[u]?.getD undef = .pointer (some b) := by simpa using h2
  simp only [results, h]
  simp [Sem.run_bind, h1', h2', asAddr, load_int k1 l1, load_int k2 l2]
theorem box_low {w w' : World} {b n : Nat} {A : Array Value} (h : Box w b A) (hb : Below n w w') (hn : b < n) : Box w' b A :=
  ⟨Nat.lt_of_lt_of_le h.1 hb.size, fun j => (hb.cell (p := ⟨b, j, none⟩) hn).trans (h.2 j)⟩
theorem wrap_add (a b : Int) : wrap64 (wrap64 a + IntKind.i64.wrap b) = wrap64 (a + b) := by
  rw [IntKind.wrap_i64]
  simp only [wrap64]
  omega
theorem wrap_is (a : Int) : IntKind.i64.wrap a = wrap64 a := by
  rw [IntKind.wrap_i64]
  simp only [wrap64]
theorem cWL_append (a b : List V) : cWL (a ++ b) = max (cWL a) (cWL b) := by
  induction a with
  | nil =>
    have h : ∀ l : List V, 0 ≤ cWL l := fun l => by induction l with
      | nil => unfold cWL; omega
      | cons x r ih => unfold cWL; omega
    have := h b
    rw [List.nil_append]; show _ = max 0 _; omega
  | cons x r ih => rw [List.cons_append, cWL, cWL, ih]; omega
theorem cWF_append (a b : List F) : cWF (a ++ b) = max (cWF a) (cWF b) := by
  induction a with
  | nil =>
    have h : ∀ l : List F, 0 ≤ cWF l := fun l => by induction l with
      | nil => unfold cWF; omega
      | cons x r ih => cases x; unfold cWF; omega
    have := h b
    rw [List.nil_append]; show _ = max 0 _; omega
  | cons x r ih => cases x; rw [List.cons_append, cWF, cWF, ih]; omega
theorem pNF_append (a b : List F) : pNF (a ++ b) = pNF a + pNF b := by
  induction a with
  | nil => unfold pNF; simp
  | cons x r ih => cases x; rw [List.cons_append, pNF, pNF, ih]; omega
theorem take_one {α : Type} {l : List α} {k : Nat} {x : α} (h : l[k]? = some x) : l.take (k + 1) = l.take k ++ [x] := by
  obtain ⟨hk, rfl⟩ := List.getElem?_eq_some_iff.1 h
  exact List.take_succ_eq_append_getElem hk
/-- what count answers -/
def CntPost (x : V) (w : World) (e : Ending) (w' : World) : Prop := e = .returned (.tuple #[.int .i64 (IntKind.i64.wrap (pN x : Int)), .int .i64 (cW x)]) ∧ Below w.heap.size w w'
def CntAt (x : V) : Prop := ∀ (cs : List Value) (w : World), RepV w x cs → Calls Tryz.prog 42 #[.agg cs.toArray] w (CntPost x w)
set_option maxRecDepth 100000 in
set_option maxHeartbeats 8000000 in
theorem count1_at (x : V) (hx : CntAt x) (b1 b2 : Nat) (t1 t2 : TypeId) (p l : Int) (cs : List Value) (w : World) (h : RepV w x cs) (h1 : RH w b1 #[.int .i64 p] t1) (h2 : RH w b2 #[.int .i64 l] t2) (hne : b1 ≠ b2) :
    Calls Tryz.prog 62 #[.agg cs.toArray, .pointer (some ⟨b1, 0, none⟩), .pointer (some ⟨b2, 0, none⟩)] w fun e w' => e = .returned (.tuple #[]) ∧ RH w' b1 #[.int .i64 (wrap64 (p + IntKind.i64.wrap (pN x : Int)))] t1 ∧ RH w' b2 #[.int .i64 (max l (cW x))] t2 ∧ ∀ n, n ≤ b1 → n ≤ b2 → Below n w w' := by
  obtain ⟨k0, n0, s0, ai, m, q, af, m', q', rfl⟩ := V5 h
  obtain ⟨pn, hpn⟩ : ∃ z, IntKind.i64.wrap (pN x : Int) = z := ⟨_, rfl⟩
  obtain ⟨cw, hcw⟩ : ∃ z, cW x = z := ⟨_, rfl⟩
  have HC : Hid (∀ V, Below w.heap.size w V → Calls Tryz.prog 42 #[.agg #[.int .i64 k0, .int .i64 n0, .string s0, .slice ai m q, .slice af m' q']] V fun e w' => e = .returned (.tuple #[.int .i64 pn, .int .i64 cw]) ∧ Below V.heap.size V w') := Lib.hid (fun V hV => by
    rw [← hpn, ← hcw]; exact hx _ V (RepV.ext hV h))
  rw [hpn, hcw]
  clear hx h hpn hcw
  have HLT := Lib.hid h1.lt
  go_enter Tryz.func62, Tryz.ntmps62
  go_upto_region 1 with (fail)
  refine wp_box1 fun W hszW hbW hA => ?_
  have a0 : W.cell? ⟨w.heap.size, 0, none⟩ = some (.int .i64 k0) := hA.2 0
  have a1 : W.cell? ⟨w.heap.size, 1, none⟩ = some (.int .i64 n0) := hA.2 1
  have a2 : W.cell? ⟨w.heap.size, 2, none⟩ = some (.string s0) := hA.2 2
  have a3 : W.cell? ⟨w.heap.size, 3, none⟩ = some (.slice ai m q) := hA.2 3
  have a4 : W.cell? ⟨w.heap.size, 4, none⟩ = some (.slice af m' q') := hA.2 4
  clear hszW hA
  go_wp2_with fail
  refine (HC.out _ hbW).mono ?_
  rintro e w1 ⟨rfl, hb1⟩
  have hw1 := ext_trans hbW hb1
  replace h1 := h1.ext hw1
  replace h2 := h2.ext hw1
  have c1 : w1.cell? ⟨b1, 0, none⟩ = some (.int .i64 p) := h1.cell 0
  have c2 : w1.cell? ⟨b2, 0, none⟩ = some (.int .i64 l) := h2.cell 0
  have f1 : w1.frozen? ⟨b1, 0, none⟩ = false := h1.fre 0
  have f2 : w1.frozen? ⟨b2, 0, none⟩ = false := h2.fre 0
  have hne2 : b2 ≠ b1 := hne.symm
  clear a0 a1 a2 a3 a4 hb1 hbW HC
  go_wp2_with fail
  go_region
  have hE1 : RH (((w1.setCell ⟨b1, 0, none⟩ (.int .i64 (wrap64 (p + pn)))).setCell ⟨b2, 0, none⟩ (.int .i64 (max l cw))).drew) b1 #[.int .i64 (wrap64 (p + pn))] t1 := (h1.set 0 _).other (p := ⟨b2, 0, none⟩) hne _
  have hE2 : RH (((w1.setCell ⟨b1, 0, none⟩ (.int .i64 (wrap64 (p + pn)))).setCell ⟨b2, 0, none⟩ (.int .i64 (max l cw))).drew) b2 #[.int .i64 (max l cw)] t2 := (h2.other (p := ⟨b1, 0, none⟩) hne2 _).set 0 _
  have hE3 : ∀ n, n ≤ b1 → n ≤ b2 → Below n w (((w1.setCell ⟨b1, 0, none⟩ (.int .i64 (wrap64 (p + pn)))).setCell ⟨b2, 0, none⟩ (.int .i64 (max l cw))).drew) := fun n k1 k2 => ((hw1.mono (Nat.le_trans k1 (Nat.le_of_lt HLT.out))).setCell k1 _ |>.setCell k2 _).drew
  go_end0
  exact ⟨rfl, hE1, hE2, hE3⟩
set_option maxRecDepth 100000 in
set_option maxHeartbeats 8000000 in
theorem count_at (k n : Int) (s : ByteArray) (is : List V) (fs : List F) (hI : ∀ x ∈ is, CntAt x) (hF : ∀ f ∈ fs, CntAt (vlF f)) : CntAt (.mk k n s is fs) := by
  intro cs w h
  obtain ⟨ai, ci, af, cf, EI, EF, rfl, _, _, _, hV⟩ := RepV.open h
  have HV := Lib.hid hV
  have HI := Lib.hid hI
  have HF := Lib.hid hF
  have hl1 : (is.length : Int) ≤ 9223372036854775807 := by obtain ⟨_, _, e, k1, k2, _⟩ := hV.si; cases e; unfold maxLen at k2; omega
  have hl2 : (fs.length : Int) ≤ 9223372036854775807 := by obtain ⟨_, _, e, k1, k2, _⟩ := hV.sf; cases e; unfold maxLen at k2; omega
  clear h hV hI hF
  go_enter Tryz.func42, Tryz.ntmps42
  go_upto_region 1 with (fail)
  refine wp_cnt3 fun W hbW hA hR1 hR2 => ?_
  have HA := Lib.hid hA
  generalize hb : w.heap.size = b at *
  have HXB := Lib.hid hb
  clear hb hA
  have hS : b + 1 + 1 < W.heap.size := hR2.lt
  go_upto_region 2 with (refine Rw.wpList_store_in rfl _ _ _ rfl (b + 1) 0 (.int .i64 1) [.int .i64 1] rfl rfl rfl [.int .i64 0] _ hR1 (by simp) (by kernel_rfl) (by intro u hu; rw [List.mem_singleton.1 hu]; rfl) ?_; intro W1 hR1' hg1)
  have hR3 : RH W1 (b + 1) #[.int .i64 1] 3 := hR1'
  have hR4 : RH W1 (b + 1 + 1) #[.int .i64 0] 3 := by unfold RH; rw [hg1.block _ hS (by simp)]; exact hR2
  have hA1 : Box W1 b #[.int .i64 k, .int .i64 n, .string s, .slice ai is.length ci, .slice af fs.length cf] := (Rw.rh_grown HA.out hg1 (by simp)).box
  have hw1 : Below b w W1 := hbW.trans (Rw.grown_below hg1 (by omega) (by omega))
  have c3 : W1.cell? ⟨b, 3, none⟩ = some (.slice ai is.length ci) := hA1.2 3
  have HA1 := Lib.hid hA1
  have HS1 := Lib.hid (Nat.lt_of_lt_of_le hS hg1.size)
  clear hR1 hR2 hR1' hg1 hbW HA hA1 hS
  go_wp2
  go_loopw [13] (fun i wr => ∃ (q : Nat) (p l : Int), q ≤ is.length ∧ i = .int .i64 (q : Int) ∧ RH wr (b + 1) #[.int .i64 p] 3 ∧ RH wr (b + 1 + 1) #[.int .i64 l] 3 ∧ Hid (p = wrap64 (1 + (pNL (is.take q) : Int))) ∧ Hid (l = cWL (is.take q)) ∧ Below b w wr ∧ Box wr b #[.int .i64 k, .int .i64 n, .string s, .slice ai is.length ci, .slice af fs.length cf]) (fun i _ => is.length - (intOf i).toNat)
  case atStart => exact ⟨0, 1, 0, by omega, rfl, hR3, hR4, Lib.hid (by simp [pNL, wrap64]), Lib.hid (by simp [cWL]), hw1, HA1.out⟩
  case round =>
    obtain ⟨q, p, l, hq, rfl, hr1, hr2, HP, HL, hw, hbx⟩ := hrel
    generalize hX : wr = X at *
    clear hX hR3 hR4 hw1 c3
    by_cases hlt : q < is.length
    · obtain ⟨x, hx⟩ : ∃ x, is[q]? = some x := ⟨_, List.getElem?_eq_getElem hlt⟩
      have hVX := HV.out.ext (w' := X) (by rw [HXB.out]; exact hw)
      obtain ⟨c, hc, hrx⟩ := All2.get hVX.ri hx
      obtain ⟨p0, o0, rfl, hp0, hcell⟩ := sl_elem hVX.si (all_len (fun _ _ => RepV.len) hVX.ri) (by omega) hc
      have hqi : (q : Int) < (is.length : Int) := by omega
      have HX := Lib.hid hx
      have HRX := Lib.hid hrx
      have hcl : c.length = 5 := hrx.len
      have HONE := Lib.hid (all_arr (RepV.one hrx))
      have HINF := Lib.hid (v_info hrx)
      have HSZ : Hid (5 = c.toArray.size) := Lib.hid (by simp [hcl])
      clear hVX hc hrx hx
      go_upto_region 6 with (first | (refine wpList_load_agg rfl _ _ rfl p0 (o0 + q * 5) (by rfl) c (fun j v hj => by rw [Nat.add_assoc]; exact hcell j v hj) _ Tryz.underlying25 rfl HINF.out ?_) | (refine wpList_store_row rfl _ _ _ rfl X.heap.size c.toArray rfl rfl _ _ (Nt.RH.new _ _ _) HINF.out HSZ.out HONE.out ?_))
      refine wp_stored fun V hbV hR => ?_
      have hwV := hw.trans (hbV.mono (by have := hr2.lt; omega))
      have hX1 := Lib.hid hr2.lt
      replace hr1 := hr1.ext hbV
      replace hr2 := hr2.ext hbV
      replace hbx := hbx.ext hbV
      have HC := Lib.hid (count1_at x (HI.out x (List.mem_of_getElem? HX.out)) (b + 1) (b + 1 + 1) _ _ p l c V (RepV.ext hbV HRX.out) hr1 hr2 (by omega))
      clear hbV hcell hp0 hw HONE HINF HRX
      generalize X.heap.size = bx at *
      go_wp2_with (refine wpList_load_agg rfl _ _ rfl bx 0 (by rfl) c (fun j v hj => by rw [Nat.zero_add, hR.cell]; exact (List.getElem?_toArray).trans hj) _ Tryz.underlying25 rfl (by rw [hcl]; kernel_rfl) ?_)
      refine HC.out.mono ?_
      rintro e w2 ⟨rfl, k1, k2, k3⟩
      have hw2 := hwV.trans (k3 b (by omega) (by omega))
      have HPN : Hid (wrap64 (p + IntKind.i64.wrap (pN x : Int)) = wrap64 (1 + (pNL (is.take (q + 1)) : Int))) := Lib.hid (by
        rw [HP.out, wrap_add, take_one HX.out, pNL_append]
        simp only [pNL]
        congr 1
        omega)
      have HLN : Hid (max l (cW x) = cWL (is.take (q + 1))) := Lib.hid (by
        have h0 : 0 ≤ cWL (is.take q) := by
          have := cWL_append (is.take q) []
          rw [List.append_nil] at this
          simp only [cWL] at this
          omega
        rw [HL.out, take_one HX.out, cWL_append]
        simp only [cWL]
        omega)
      have hbx2 := box_low hbx (k3 (b + 1) (by omega) (by omega)) (by omega)
      clear k3 hwV hbx hr1 hr2 hR HP HL
      go_wp2
      go_roundw
      case rel => exact ⟨q + 1, _, _, by omega, by go_num, k1, k2, HPN, HLN, hw2, hbx2⟩
      case measure => simp [intOf]; omega
    · have hqe : q = is.length := by omega
      subst hqe
      rw [List.take_length] at HP HL
      have c4 : X.cell? ⟨b, 4, none⟩ = some (.slice af fs.length cf) := hbx.2 4
      have HA1 := Lib.hid hbx
      have hr3 := hr1
      have hr4 := hr2
      have hw3 := hw
      clear hlt hr1 hr2 hw hbx
      go_wp2
      go_loopw [24] (fun i wr => ∃ (q : Nat) (p l : Int), q ≤ fs.length ∧ i = .int .i64 (q : Int) ∧ RH wr (b + 1) #[.int .i64 p] 3 ∧ RH wr (b + 1 + 1) #[.int .i64 l] 3 ∧ Hid (p = wrap64 (1 + (pNL is : Int) + (pNF (fs.take q) : Int))) ∧ Hid (l = max (cWL is) (cWF (fs.take q))) ∧ Below b w wr) (fun i _ => fs.length - (intOf i).toNat)
      case atStart => exact ⟨0, p, l, by omega, rfl, hr3, hr4, Lib.hid (by rw [HP.out]; simp [pNF]), Lib.hid (by
        have h0 := cWL_append is []
        rw [List.append_nil] at h0
        simp only [cWL] at h0
        rw [HL.out]; simp only [List.take_zero, cWF]; omega), hw3⟩
      case round =>
        obtain ⟨q, p, l, hq, rfl, hr1, hr2, HP, HL, hw⟩ := hrel
        generalize hX : wr = Y at *
        clear hX hr3 hr4 hw3 c4
        by_cases hlt : q < fs.length
        · obtain ⟨f, hx⟩ : ∃ x, fs[q]? = some x := ⟨_, List.getElem?_eq_getElem hlt⟩
          have hVX := HV.out.ext (w' := Y) (by rw [HXB.out]; exact hw)
          obtain ⟨c, hc, hrx⟩ := All2.get hVX.rf hx
          obtain ⟨p1, o1, rfl, hp0, hcell⟩ := sl_elem hVX.sf (all_len (fun _ _ => RepF.len) hVX.rf) (by omega) hc
          have hqi : (q : Int) < (fs.length : Int) := by omega
          have HX := Lib.hid hx
          have hcl : c.length = 6 := hrx.len
          have HONE := Lib.hid (all_arr (RepF.one hrx))
          have HINF := Lib.hid (f_info hrx)
          have HSZ : Hid (6 = c.toArray.size) := Lib.hid (by simp [hcl])
          obtain ⟨nm, x⟩ := f
          have hrx' := hrx
          simp only [RepF] at hrx'
          obtain ⟨cv, hcv, _, hrv⟩ := hrx'
          have HRX := Lib.hid hrv
          have hcvl : cv.length = 5 := hrv.len
          have HCV := Lib.hid hcv
          clear hVX hc hrx hx hrv hcv
          go_upto_region 11 with (first | (refine wpList_load_agg rfl _ _ rfl p1 (o1 + q * 6) (by rfl) c (fun j v hj => by rw [Nat.add_assoc]; exact hcell j v hj) _ Tryz.underlying54 rfl HINF.out ?_) | (refine wpList_store_row rfl _ _ _ rfl Y.heap.size c.toArray rfl rfl _ _ (Nt.RH.new _ _ _) HINF.out HSZ.out HONE.out ?_))
          refine wp_stored fun V hbV hR => ?_
          have hwV := hw.trans (hbV.mono (by have := hr2.lt; omega))
          replace hr1 := hr1.ext hbV
          replace hr2 := hr2.ext hbV
          have HC := Lib.hid (count1_at x (HF.out (.mk nm x) (List.mem_of_getElem? HX.out)) (b + 1) (b + 1 + 1) _ _ p l cv V (RepV.ext hbV HRX.out) hr1 hr2 (by omega))
          clear hbV hcell hp0 hw HONE HINF HRX
          generalize Y.heap.size = bx at *
          have hcv6 : ∀ (j : Nat) (v : Value), cv[j]? = some v → V.cell? ⟨bx, 1 + j, none⟩ = some v := fun j v hj => by
            rw [hR.cell, HCV.out, List.getElem?_toArray, Nat.add_comm, List.getElem?_cons_succ]; exact hj
          go_wp2_with (refine wpList_load_agg rfl _ _ rfl bx 1 (by rfl) cv hcv6 _ Tryz.underlying25 rfl (by rw [hcvl]; kernel_rfl) ?_)
          refine HC.out.mono ?_
          rintro e w2 ⟨rfl, k1, k2, k3⟩
          have hw2 := hwV.trans (k3 b (by omega) (by omega))
          have HPN : Hid (wrap64 (p + IntKind.i64.wrap (pN x : Int)) = wrap64 (1 + (pNL is : Int) + (pNF (fs.take (q + 1)) : Int))) := Lib.hid (by
            rw [HP.out, wrap_add, take_one HX.out, pNF_append]
            simp only [pNF]
            congr 1
            omega)
          have HLN : Hid (max l (cW x) = max (cWL is) (cWF (fs.take (q + 1)))) := Lib.hid (by
            have h0 : 0 ≤ cWF (fs.take q) := by
              have := cWF_append (fs.take q) []
              rw [List.append_nil] at this
              simp only [cWF] at this
              omega
            rw [HL.out, take_one HX.out, cWF_append]
            simp only [cWF]
            omega)
          clear k3 hwV hr1 hr2 hR HP HL hcv6
          go_wp2
          go_roundw
          case rel => exact ⟨q + 1, _, _, by omega, by go_num, k1, k2, HPN, HLN, hw2⟩
          case measure => simp [intOf]; omega
        · have hqe : q = fs.length := by omega
          subst hqe
          rw [List.take_length] at HP HL
          have d1 : Y.cell? ⟨b + 1, 0, none⟩ = some (.int .i64 p) := hr1.cell 0
          have d2 : Y.cell? ⟨b + 1 + 1, 0, none⟩ = some (.int .i64 l) := hr2.cell 0
          have f1 : Y.frozen? ⟨b + 1, 0, none⟩ = false := hr1.fre 0
          have f2 : Y.frozen? ⟨b + 1 + 1, 0, none⟩ = false := hr2.fre 0
          have HR1 := Lib.hid hr1
          have HR2 := Lib.hid hr2
          clear hr1 hr2
          go_wp2_with fail
          go_region
          have hPF : IntKind.i64.wrap (pN (.mk k n s is fs) : Int) = p := by
            rw [HP.out, wrap_is, pN]
            congr 1
            try omega
          have hLF : cW (.mk k n s is fs) = wrap64 (l + 1) := by rw [cW, wrap_is, HL.out]
          have hE1 : RH (((Y.setCell ⟨b + 1, 0, none⟩ (.int .i64 p)).setCell ⟨b + 1 + 1, 0, none⟩ (.int .i64 (wrap64 (l + 1)))).drew) (b + 1) #[.int .i64 p] 3 := (HR1.out.set 0 _).other (p := ⟨b + 1 + 1, 0, none⟩) (by simp) _
          have hE2 : RH (((Y.setCell ⟨b + 1, 0, none⟩ (.int .i64 p)).setCell ⟨b + 1 + 1, 0, none⟩ (.int .i64 (wrap64 (l + 1)))).drew) (b + 1 + 1) #[.int .i64 (wrap64 (l + 1))] 3 := (HR2.out.other (p := ⟨b + 1, 0, none⟩) (by simp) _).set 0 _
          have hE3 : Below b w (((Y.setCell ⟨b + 1, 0, none⟩ (.int .i64 p)).setCell ⟨b + 1 + 1, 0, none⟩ (.int .i64 (wrap64 (l + 1)))).drew) := ((hw.setCell (show b ≤ (⟨b + 1, 0, none⟩ : Addr).block by show b ≤ b + 1; omega) _).setCell (show b ≤ (⟨b + 1 + 1, 0, none⟩ : Addr).block by show b ≤ b + 1 + 1; omega) _).drew
          generalize World.drew _ = Z at *
          have e1 : Z.cell? ⟨b + 1, 0, none⟩ = some (.int .i64 p) := hE1.cell 0
          have e2 : Z.cell? ⟨b + 1 + 1, 0, none⟩ = some (.int .i64 (wrap64 (l + 1))) := hE2.cell 0
          have HFIN : Hid (CntPost (.mk k n s is fs) w (.returned (.tuple #[.int .i64 p, .int .i64 (wrap64 (l + 1))])) Z) := Lib.hid ⟨by rw [hPF, hLF], by rw [HXB.out]; exact hE3⟩
          clear hE1 hE2 hE3 hPF hLF d1 d2 f1 f2
          go_wp2
          refine bodyPost_ret (v := .tuple #[.int .i64 p, .int .i64 (wrap64 (l + 1))]) (results_cells2 rfl _ _ rfl rfl e1 e2 ⟨_, rfl⟩ ⟨_, rfl⟩) rfl HFIN.out
/- count at every value -/
mutual
theorem countV : ∀ x : V, CntAt x
  | .mk k n s is fs => count_at k n s is fs (countL is) (countF fs)
theorem countL : ∀ l : List V, ∀ x ∈ l, CntAt x
  | [] => fun _ h => by cases h
  | y :: l => fun x h => (List.mem_cons.1 h).elim (fun e => e ▸ countV y) (fun h => countL l x h)
theorem countF : ∀ l : List F, ∀ f ∈ l, CntAt (vlF f)
  | [] => fun _ h => by cases h
  | .mk nm y :: l => fun f h => (List.mem_cons.1 h).elim (fun e => by rw [e]; exact countV y) (fun h => countF l f h)
end
end Fd
end Go.Proofs.YtbhcfmdogdaodaaGreatDoor
namespace Go.Proofs.YtbhcfmdogdaodaaGreatDoor
open Go.RowKit
namespace Fd
open _root_.Go.Proofs.YtbhcfmdogdaodaaGreatDoor.Nt (RH RH.cell RH.box RH.lt RH.new RH.ext RH.fre RH.set RH.other)
open _root_.Go.Proofs.YtbhcfmdogdaodaaGreatDoor.Rw (All2 All2.get All2.length wpList_load_agg wp_stored fl_at Kept Fresh own_mono own_base)
theorem all2_of {α β : Type} {R : α → β → Prop} : ∀ {l : List α} {m : List β}, l.length = m.length → (∀ (j : Nat) (x : α), l[j]? = some x → ∃ y : β, m[j]? = some y ∧ R x y) → All2 R l m
  | [], [], _, _ => trivial
  | [], _ :: _, h, _ => by simp at h
  | _ :: _, [], h, _ => by simp at h
  | x :: l, y :: m, h, hg => by
    obtain ⟨z, e, hz⟩ := hg 0 x rfl
    cases e
    exact ⟨hz, all2_of (by simpa using h) (fun j x hj => hg (j + 1) x hj)⟩
/-- a row that is copied, element by element: those ahead of q are copies of their own, the others still what they were -/
def CInv {α : Type} (R : World → α → List Value → Prop) (k M q : Nat) (w wr : World) (l : List α) (E : List (List Value)) : Prop :=
  E.length = l.length ∧ (∀ c ∈ E, c.length = k) ∧ ∀ (j : Nat) (x : α), l[j]? = some x → ∃ c, E[j]? = some c ∧ (j < q → Fresh M (fun w => R w x c) wr) ∧ (q ≤ j → R w x c)
section
variable {α : Type} {R : World → α → List Value → Prop} {k M q : Nat} {w wr wr' : World} {l : List α} {E : List (List Value)}
theorem CInv.start (hR : ∀ x c, R w x c → c.length = k) (h : All2 (R w) l E) : CInv R k M 0 w wr l E :=
  ⟨h.length.symm, all_len hR h, fun j x hj => by
    obtain ⟨c, hc, hr⟩ := All2.get h hj
    exact ⟨c, hc, fun h => by omega, fun _ => hr⟩⟩
theorem CInv.get (h : CInv R k M q w wr l E) {x : α} (hx : l[q]? = some x) : ∃ c, E[q]? = some c ∧ R w x c := by
  obtain ⟨c, h1, _, h2⟩ := h.2.2 q x hx
  exact ⟨c, h1, h2 (Nat.le_refl _)⟩
theorem CInv.kept (h : CInv R k M q w wr l E) (hs : wr.heap.size ≤ wr'.heap.size) (hk : Kept M wr wr') : CInv R k M q w wr' l E :=
  ⟨h.1, h.2.1, fun j x hj => by
    obtain ⟨c, h1, h2, h3⟩ := h.2.2 j x hj
    exact ⟨c, h1, fun hq => (h2 hq).kept hs hk, h3⟩⟩
theorem CInv.step (h : CInv R k M q w wr l E) {x : α} {c : List Value} (hx : l[q]? = some x) (hc : Fresh M (fun w => R w x c) wr) (hl : c.length = k) : CInv R k M (q + 1) w wr l (E.set q c) := by
  have hq : q < E.length := by rw [h.1]; exact (List.getElem?_eq_some_iff.1 hx).1
  refine ⟨by rw [List.length_set]; exact h.1, fun d hd => ?_, fun j y hj => ?_⟩
  · rcases List.mem_or_eq_of_mem_set hd with h1 | h1
    · exact h.2.1 d h1
    · rw [h1]; exact hl
  · by_cases e : q = j
    · subst e
      rw [hx] at hj
      cases hj
      exact ⟨c, by rw [List.getElem?_set_self hq], fun _ => hc, fun h => by omega⟩
    · obtain ⟨d, h1, h2, h3⟩ := h.2.2 j y hj
      exact ⟨d, by rw [List.getElem?_set_ne e]; exact h1, fun hq => h2 (by omega), fun hq => h3 (by omega)⟩
theorem CInv.fin (h : CInv R k M l.length w wr l E) : All2 (fun x c => Fresh M (fun w => R w x c) wr) l E :=
  all2_of h.1.symm (fun j x hj => by
    obtain ⟨c, h1, h2, _⟩ := h.2.2 j x hj
    exact ⟨c, h1, h2 (List.getElem?_eq_some_iff.1 hj).1⟩)
end
theorem wp_vr2 {P : Program} {c : Code} {Q : Exit → Act → World → Prop} {a : Act} {w : World} {A B : Array Value} {t u : TypeId}
    (h : ∀ W, Below w.heap.size w W → RH W w.heap.size A t → RH W (w.heap.size + 1) B u → c.wp P Q a W) : c.wp P Q a ((w.alloc (.cells A t)).alloc (.cells B u)) := by
  refine h _ (by go_grown) ((RH.new w A t).ext (ext_alloc _ _)) ?_
  have := RH.new (w.alloc (.cells A t)) B u
  simpa using this
/-- the cells of a value in a variable -/
abbrev vAr (k n : Int) (s : ByteArray) (v1 v2 : Value) : Array Value := #[.int .i64 k, .int .i64 n, .string s, v1, v2]
/-- what stands while a value is copied -/
structure XI (b : Nat) (w : World) (k n : Int) (s : ByteArray) (g1 : Option Addr) (n1 q1 : Nat) (g2 : Option Addr) (n2 q2 : Nat) (E1 E2 : List (List Value)) (wx : World) : Prop where
  r1 : RH wx b (vAr k n s (.slice g1 n1 q1) (.slice g2 n2 q2)) 25
  r2 : ∃ A, RH wx (b + 1) A 25 ∧ A.size = 5
  o1 : wx.ownsRow (b + 2) 25 5 (.slice g1 n1 q1) n1 E1.flatten
  o2 : wx.ownsRow (b + 2) 54 6 (.slice g2 n2 q2) n2 E2.flatten
  ne : ∀ p, (Value.slice g1 n1 q1).ownBlock = some p → (Value.slice g2 n2 q2).ownBlock ≠ some p
  bl : Below b w wx
theorem own_kept {N b j : Nat} {v : Value} {w : World} {e size n : Nat} {u : Value} {xs : List Value} (h : w.ownsRow N e size u n xs) (hb : b < N) : (w.setCell ⟨b, j, none⟩ v).ownsRow N e size u n xs := by
  obtain ⟨h1, h2 | ⟨g, cap, cur, hv, hB, hr, hr2⟩⟩ := h
  · exact ⟨h1, .inl h2⟩
  · exact ⟨h1, .inr ⟨g, cap, cur, hv, hB, (heap_setCell_other w ⟨b, j, none⟩ g v (fun e => by have e' : b = g := e.symm; omega)).trans hr, hr2⟩⟩
theorem XI.start {b : Nat} {w w3 w4 : World} {k n : Int} {s : ByteArray} {g1 : Option Addr} {n1 q1 : Nat} {g2 : Option Addr} {n2 q2 : Nat} {E1 E2 : List (List Value)} {u1 u2 : Value} {M : Nat}
    (hM : b + 1 < M) (h3 : M ≤ w3.heap.size) (hr : RH w4 b (vAr k n s u1 u2) 25) (hz : ∃ A, RH w4 (b + 1) A 25 ∧ A.size = 5)
    (ho1 : w3.ownsRow M 25 5 (.slice g1 n1 q1) n1 E1.flatten) (h34 : Below w3.heap.size w3 w4) (ho2 : w4.ownsRow w3.heap.size 54 6 (.slice g2 n2 q2) n2 E2.flatten) (hb : Below b w w4) :
    XI b w k n s g1 n1 q1 g2 n2 q2 E1 E2 ((w4.setCell ⟨b, 3, none⟩ (.slice g1 n1 q1)).setCell ⟨b, 4, none⟩ (.slice g2 n2 q2)) where
  r1 := (hr.set 3 _).set 4 _
  r2 := by obtain ⟨A, h1, h2⟩ := hz; exact ⟨A, (h1.other (p := ⟨b, 3, none⟩) (by simp) _).other (p := ⟨b, 4, none⟩) (by simp) _, h2⟩
  o1 := own_kept (own_kept (own_mono (ownsRow_ext ho1 h34) (by omega)) (by omega)) (by omega)
  o2 := own_kept (own_kept (own_mono ho2 (by omega)) (by omega)) (by omega)
  ne := fun p h1 h2 => by
    have := (own_base ho1 p h1).2
    have := (own_base ho2 p h2).1
    omega
  bl := (hb.setCell (Nat.le_refl b) _).setCell (Nat.le_refl b) _
section
variable {b : Nat} {w wx wy : World} {k n : Int} {s : ByteArray} {g1 : Option Addr} {n1 q1 : Nat} {g2 : Option Addr} {n2 q2 : Nat} {E1 E2 : List (List Value)}
theorem XI.ext (h : XI b w k n s g1 n1 q1 g2 n2 q2 E1 E2 wx) (hb : Below wx.heap.size wx wy) : XI b w k n s g1 n1 q1 g2 n2 q2 E1 E2 wy where
  r1 := h.r1.ext hb
  r2 := by obtain ⟨A, h1, h2⟩ := h.r2; exact ⟨A, h1.ext hb, h2⟩
  o1 := ownsRow_ext h.o1 hb
  o2 := ownsRow_ext h.o2 hb
  ne := h.ne
  bl := h.bl.trans (hb.mono (Nat.le_of_lt h.r1.lt))
theorem fl_put1 {E : List (List Value)} (hk : ∀ c ∈ E, c.length = 6) {i : Nat} {u : Value} {c0 c : List Value} (h : E[i]? = some (u :: c0)) (hc : c.length = 5) : Rw.setL E.flatten (i * 6 + 1) c = (E.set i (u :: c)).flatten := by
  have hi : i < E.length := (List.getElem?_eq_some_iff.1 h).1
  have h1 := Rw.fl_put hk (c := u :: c) hi (by simp [hc])
  have h2 : E.flatten[i * 6]? = some u := fl_at hk (j := 0) h rfl
  rw [Rw.setL] at h1
  rw [← h1]
  congr 1
  obtain ⟨hj, e⟩ := List.getElem?_eq_some_iff.1 h2
  rw [← e, List.set_getElem_self]
end
/- Xcopy at every value -/
end Fd
end Go.Proofs.YtbhcfmdogdaodaaGreatDoor
