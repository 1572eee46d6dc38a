/- Plain: how many parts a merged value and a patch have at most; the least patch laid in field by field. No program stands in it. WriteString of a strings.Builder of the call's own (the builder's other methods stand in the shelf). WriteString and WriteByte of a strings.Builder of the call's own, and what they leave as it was: all blocks but the builder's own. quote and thousandths of package value: what they write to a builder. Printed by gen_vsh.py. -/
import Derived.Test.YtbhcfmdogdaodaaDoorTe07
import Derived.Test.YtbhcfmdogdaodaaDoorTe01
import Derived.Test.YtbhcfmdogdaodaaDoorProg
import Derived.Test.YtbhcfmdogdaodaaDoorTe00
import Derived.Lib.Strings
import Derived.Lib.Walk
import Derived.Lib.Builder
import Derived.Lib.AppendStr
import Derived.WalkKit
import Derived.Laws.Externs
import Derived.Test.YtbhcfmdogdaodaaDoorTe02
namespace Go.Proofs.YtbhcfmdogdaodaaDoor
namespace Fd
theorem pNF_put (nm : ByteArray) (m : V) : ∀ l : List F, pNF (putF nm m l) ≤ pNF l + pN m
  | [] => by unfold putF; simp only [pNF]; omega
  | .mk a x :: r => by
    have := pNF_put nm m r
    unfold putF
    split
    · simp only [pNF]; omega
    · split
      · simp only [pNF]; omega
      · simp only [pNF]; omega
theorem pNF_put_some {nm : ByteArray} {m old : V} : ∀ {l : List F}, Srt l → lk l nm = some old → pNF (putF nm m l) + pN old ≤ pNF l + pN m
  | [], _, h => by cases h
  | .mk a x :: r, hs, h => by
    obtain ⟨h1, h2⟩ := List.pairwise_cons.1 hs
    unfold putF
    rw [lk] at h
    by_cases e : a = nm
    · rw [if_pos (show nmF (.mk a x) = nm from e)] at h
      have h : x = old := by injection h
      subst h; subst e
      rw [if_neg (show ¬ cmpS a (nmF (F.mk a x)) < 0 by show ¬ cmpS a a < 0; rw [cmpS_self]; omega), if_pos (show a = nmF (F.mk a x) from rfl)]
      simp only [pNF]; omega
    · rw [if_neg (show ¬ nmF (.mk a x) = nm from e)] at h
      have h3 : cmpS a nm < 0 := h1 _ (lk_mem h)
      have h4 := cmpS_anti a nm
      have := pNF_put_some (m := m) h2 h
      rw [if_neg (show ¬ cmpS nm (nmF (F.mk a x)) < 0 from fun h9 => by have h9 : cmpS nm a < 0 := h9; omega), if_neg (show ¬ nm = nmF (F.mk a x) from fun e' => e e'.symm)]
      simp only [pNF]; omega
theorem pNF_filter (p : F → Bool) : ∀ l : List F, pNF (l.filter p) ≤ pNF l
  | [] => by simp [pNF]
  | .mk a x :: r => by
    have := pNF_filter p r
    rw [List.filter_cons]
    split
    · simp only [pNF]; omega
    · simp only [pNF]; omega
theorem pNF_drop_some {nm : ByteArray} {t : V} : ∀ {l : List F}, lk l nm = some t → pNF (dropF nm l) + pN t ≤ pNF l
  | [], h => by cases h
  | .mk a x :: r, h => by
    rw [lk] at h
    unfold dropF
    rw [List.filter_cons]
    by_cases e : a = nm
    · rw [if_pos (show nmF (.mk a x) = nm from e)] at h
      have h : x = t := by injection h
      subst h
      have := pNF_filter (fun f => decide (nmF f ≠ nm)) r
      rw [if_neg (by simp [nmF, e])]
      simp only [pNF]; omega
    · rw [if_neg (show ¬ nmF (.mk a x) = nm from e)] at h
      have := pNF_drop_some h
      unfold dropF at this
      rw [if_pos (by simp [nmF, e])]
      simp only [pNF]; omega
theorem pN_zero : pN V0 = 1 := by simp [V0, pN, pNL, pNF]
theorem pN_setFields (v : V) (fs : List F) : pN (setFields v fs) = 1 + pNL (items v) + pNF fs := by
  obtain ⟨k, n, s, is, fs0⟩ := v; rfl
theorem pN_obj (fs : List F) : pN (obj fs) = 1 + pNF fs := by simp [obj, pN, pNL]
theorem pN_own (v : V) : pN v = 1 + pNL (items v) + pNF (fields v) := by obtain ⟨k, n, s, is, fs⟩ := v; rfl
mutual
theorem pN_merge : ∀ {x p : V}, chkV x = 0 → chkV p = 0 → pN (mergeV x p) + 1 ≤ pN x + pN p
  | x, .mk k n s is us, hx, hp => by
    have hpos := pN_pos x
    simp only [mergeV]
    by_cases hk : k ≠ 5
    · rw [if_pos hk]; omega
    · rw [if_neg hk, pN_setFields]
      obtain ⟨hb1, hb2⟩ := base_right hx
      obtain ⟨hu1, hu2⟩ : Srt us ∧ ∀ f ∈ us, chkV (vlF f) = 0 := fields_ok hp
      have h := pNF_merge us (out := fields (base x)) hb1 (fun f _ y h => hb2 _ (lk_mem h)) (srt_ne' hu1) hu2
      have hb : pN (base x) ≤ pN x := by
        unfold base
        split
        · exact Nat.le_refl _
        · rw [pN_obj]; simp only [pNF]; exact hpos
      rw [pN_own (base x)] at hb
      simp only [pN]; omega
theorem pNF_merge : ∀ (us : List F) {out : List F}, Srt out → (∀ f ∈ us, ∀ y, lk out (nmF f) = some y → chkV y = 0) → (us.Pairwise fun a b => nmF a ≠ nmF b) → (∀ f ∈ us, chkV (vlF f) = 0) → pNF (mergeFs out us) ≤ pNF out + pNF us
  | [], out, _, _, _, _ => by simp only [mergeFs, pNF]; omega
  | .mk nm x :: r, out, hs, hc, hn, hu => by
    obtain ⟨n1, n2⟩ := List.pairwise_cons.1 hn
    have hx : chkV x = 0 := hu (.mk nm x) (by simp)
    have hu' : ∀ f ∈ r, chkV (vlF f) = 0 := fun f hf => hu f (by simp [hf])
    simp only [mergeFs]
    by_cases hk : kind x = 0
    · rw [if_pos hk]
      have h := pNF_merge r (out := dropF nm out) (srt_drop hs nm) (fun f hf y hy => by rw [lk_drop, if_neg (show ¬ nm = nmF f from n1 f hf)] at hy; exact hc f (by simp [hf]) y hy) n2 hu'
      have := pNF_filter (fun f => decide (nmF f ≠ nm)) out
      unfold dropF at h ⊢
      simp only [pNF]; omega
    · rw [if_neg hk]
      have h := pNF_merge r (out := putF nm (mergeV ((lk out nm).getD V0) x) out) (srt_put hs nm _) (fun f hf y hy => by rw [lk_put hs, if_neg (show ¬ nm = nmF f from n1 f hf)] at hy; exact hc f (by simp [hf]) y hy) n2 hu'
      cases hl : lk out nm with
      | none =>
        rw [hl] at h
        have h1 := pN_merge (x := V0) (p := x) (by decide) hx
        have h2 := pNF_put nm (mergeV V0 x) out
        rw [pN_zero] at h1
        simp only [Option.getD_none] at h ⊢
        simp only [pNF]; omega
      | some old =>
        rw [hl] at h
        have h1 := pN_merge (x := old) (p := x) (hc (.mk nm x) (by simp) old hl) hx
        have h2 := pNF_put_some (m := mergeV old x) hs hl
        simp only [Option.getD_some] at h ⊢
        simp only [pNF]; omega
end
theorem pNF_putAll : ∀ (us out : List F), pNF (putAll out us) ≤ pNF out + pNF us
  | [], out => by unfold putAll; simp [pNF]
  | .mk nm x :: r, out => by
    have h := pNF_putAll r (putF nm x out)
    have h2 := pNF_put nm x out
    show pNF (putAll (putF nm x out) r) ≤ _
    simp only [pNF]; omega
theorem lk_cons_ne {f : F} {r : List F} {m : ByteArray} (h : nmF f ≠ m) : lk (f :: r) m = lk r m := by rw [lk, if_neg h]
theorem patchFs_drop (nm : ByteArray) (ts : List F) : ∀ {r : List F}, (∀ f ∈ r, nm ≠ nmF f) → patchFs r ts = patchFs r (dropF nm ts)
  | [], _ => by simp only [patchFs]
  | .mk a x :: r, h => by
    have ha : ¬ nm = a := h (.mk a x) (by simp)
    simp only [patchFs]
    rw [lk_drop, if_neg ha, patchFs_drop nm ts (fun f hf => h f (by simp [hf]))]
theorem newF_cons_none {f : F} {r ts : List F} (h : lk ts (nmF f) = none) : newF (f :: r) ts = newF r ts := by
  unfold newF
  refine List.filter_congr (fun t ht => ?_)
  rw [lk_cons_ne (fun e => by
    have h2 := lk_isSome.1 ⟨t, ht, e.symm⟩
    rw [h] at h2
    obtain ⟨_, h2⟩ := h2
    cases h2)]
theorem newF_cons_some (f : F) (r ts : List F) : newF (f :: r) ts = newF r (dropF (nmF f) ts) := by
  unfold newF dropF
  rw [List.filter_filter]
  refine List.filter_congr (fun t _ => ?_)
  by_cases e : nmF f = nmF t
  · rw [lk, if_pos e]
    simp [e]
  · rw [lk_cons_ne e]
    simp
    exact fun _ e' => e e'.symm
mutual
theorem pN_patch : ∀ {x : V} (y : V), chkV x = 0 → pN (patchV x y) ≤ pN x + pN y
  | .mk k n s is fs, y, hx => by
    by_cases h : k ≠ 5 ∨ kind y ≠ 5
    · have e1 : patchV (.mk k n s is fs) y = y := by unfold patchV; rw [if_pos h]
      rw [e1]; omega
    · have hk : k = 5 := Classical.byContradiction fun e => h (.inl e)
      have hky : kind y = 5 := Classical.byContradiction fun e => h (.inr e)
      rw [patchV_obj hk hky, pN_obj]
      obtain ⟨hf1, hf2⟩ : Srt fs ∧ ∀ f ∈ fs, chkV (vlF f) = 0 := fields_ok hx
      have h1 := pNF_putAll (ents fs (fields y)) []
      have h2 := pNF_patch fs (fields y) (srt_ne' hf1) hf2
      rw [ents_is, pNF_append] at h1
      rw [pN_own y]
      simp only [pN, pNF] at h1 ⊢
      rw [ents_is]; omega
theorem pNF_patch : ∀ (fs ts : List F), (fs.Pairwise fun a b => nmF a ≠ nmF b) → (∀ f ∈ fs, chkV (vlF f) = 0) → pNF (patchFs fs ts) + pNF (newF fs ts) ≤ pNF fs + pNF ts
  | [], ts, _, _ => by
    have : newF [] ts = ts := by unfold newF; simp [lk]
    rw [this]; simp only [patchFs, pNF]; omega
  | .mk nm x :: r, ts, hn, hc => by
    obtain ⟨n1, n2⟩ := List.pairwise_cons.1 hn
    have hx : chkV x = 0 := hc (.mk nm x) (by simp)
    have hc' : ∀ f ∈ r, chkV (vlF f) = 0 := fun f hf => hc f (by simp [hf])
    have hpos := pN_pos x
    cases hl : lk ts nm with
    | none =>
      have h := pNF_patch r ts n2 hc'
      rw [newF_cons_none (f := .mk nm x) hl]
      simp only [patchFs, hl, pNF, pN_zero]; omega
    | some t =>
      have h := pNF_patch r (dropF nm ts) n2 hc'
      have hd := pNF_drop_some hl
      have hp := pN_patch (x := x) t hx
      rw [newF_cons_some]
      simp only [patchFs, hl, nmF]
      rw [patchFs_drop nm ts n1]
      split
      · simp only [pNF]; omega
      · simp only [pNF]; omega
end
end Fd
end Go.Proofs.YtbhcfmdogdaodaaDoor
namespace Go.Proofs.YtbhcfmdogdaodaaDoor
open Go.RowKit
theorem bld_info : ∃ j, Tryd.prog.info? 75 = some j ∧ j.size = 2 :=
  Option.map_eq_some_iff.1 (show (Tryd.prog.info? 75).map (·.size) = some 2 by kernel_rfl)
theorem bld_lies : liesAt Tryd.prog Tryd.prog.depth 75 (2 / Tryd.prog.cellsOf 75) 0 75 1 = true := by kernel_rfl
theorem byte_info : (Tryd.prog.info? 5).map (fun i => (i.zero, i.size, i.bytes)) = some (some (.int .u8 0), 1, 1) := by kernel_rfl
set_option maxHeartbeats 1000000 in
set_option maxRecDepth 100000 in
theorem bld_check_used (b : Nat) (w : World) (h0 : w.cell? ⟨b, 0, none⟩ = some (.pointer (some ⟨b, 0, none⟩))) :
    Calls Tryd.prog 88 #[.pointer (some ⟨b, 0, none⟩)] w fun e w' => e = .returned (.tuple #[]) ∧ w' = w := by
  obtain ⟨j, hj, _⟩ := bld_info
  go_enter Tryd.func88, Tryd.ntmps88
  go_wp2
  rw [Lib.run_neq_ptr_same w _ Tryd.underlying72 hj]
  go_wp2
  go_end0
  exact ⟨rfl, rfl⟩
set_option maxHeartbeats 1000000 in
set_option maxRecDepth 100000 in
theorem bld_check_fresh (b : Nat) (w : World) (h0 : w.cell? ⟨b, 0, none⟩ = some (.pointer none)) (hsh : w.shape? b = some (75, 2)) (hfz : w.frozen? ⟨b, 0, none⟩ = false) :
    Calls Tryd.prog 88 #[.pointer (some ⟨b, 0, none⟩)] w fun e w' => e = .returned (.tuple #[]) ∧ w' = w.setCell ⟨b, 0, none⟩ (.pointer (some ⟨b, 0, none⟩)) := by
  obtain ⟨j, hj, hjs⟩ := bld_info
  go_enter Tryd.func88, Tryd.ntmps88
  go_wp2
  rw [Lib.run_to_unsafe w ⟨b, 0, none⟩ Tryd.underlying72 Tryd.underlying123 hj (by rw [hjs]; decide) hsh (Nat.zero_lt_succ 1)]
  simp only [Result.andThen]
  rw [Oper.upon_value]
  go_wp2
  rw [run_callFunc_extern Tryd.func101 (by kernel_rfl) (by kernel_rfl) (by kernel_rfl) (e := Extern.AbiNoEscape.same) (by kernel_rfl)]
  rw [Lib.run_noEscape]
  simp only [Result.andThen]
  rw [Oper.upon_value]
  go_wp2
  rw [Lib.run_from_unsafe w ⟨b, 0, none⟩ Tryd.underlying123 Tryd.underlying72 hj hsh bld_lies]
  simp only [Result.andThen]
  rw [Oper.upon_value]
  go_wp2
  go_end0
  exact ⟨rfl, rfl⟩
end Go.Proofs.YtbhcfmdogdaodaaDoor
namespace Go.Proofs.YtbhcfmdogdaodaaDoor
open Go.RowKit
namespace Fd
open _root_.Go.Proofs.YtbhcfmdogdaodaaDoor.Nt (RH)
/-- all blocks but b and rows of bytes stay -/
def BK (b : Nat) (w w' : World) : Prop := ∀ (q : Nat) (A : Array Value) (t : TypeId) (fr : Nat × Nat), q ≠ b → t ≠ 5 → w.heap[q]? = some (.cells A t fr) → w'.heap[q]? = some (.cells A t fr)
section
variable {b : Nat} {w w' w'' : World}
theorem BK.refl (b : Nat) (w : World) : BK b w w := fun _ _ _ _ _ _ h => h
theorem BK.trans (h : BK b w w') (k : BK b w' w'') : BK b w w'' := fun q A t fr h1 h2 h3 => k q A t fr h1 h2 (h q A t fr h1 h2 h3)
theorem BK.below (h : Below w.heap.size w w') : BK b w w' := fun q A t fr _ _ h3 => (h.block q (by
  rcases Nat.lt_or_ge q w.heap.size with h' | h'
  · exact h'
  · rw [Array.getElem?_eq_none h'] at h3; cases h3)).trans h3
theorem BK.setCell (j : Nat) (v : Value) : BK b w (w.setCell ⟨b, j, none⟩ v) := fun q _A _t _fr h1 _ h3 => (heap_setCell_other w ⟨b, j, none⟩ q v h1).trans h3
theorem BK.grown {B n : Nat} {v : Value} {xs : List Value} (hown : w.ownsRow B 5 1 v n xs) (hg : w.grownBy w' v.ownBlock) : BK b w w' := fun q A t fr _ h2 h3 => by
  have hlt : q < w.heap.size := by
    rcases Nat.lt_or_ge q w.heap.size with h' | h'
    · exact h'
    · rw [Array.getElem?_eq_none h'] at h3; cases h3
  refine (hg.block q hlt (fun e => ?_)).trans h3
  obtain ⟨_, ⟨rfl, _⟩ | ⟨g, cap, cur, rfl, _, hgc, _⟩⟩ := hown
  · cases e
  · cases e
    rw [h3] at hgc
    cases hgc
    exact h2 rfl
theorem BK.rh {q : Nat} {A : Array Value} {t : TypeId} (h : BK b w w') (hR : RH w q A t) (hq : q ≠ b) (ht : t ≠ 5) : RH w' q A t := h q A t (0, 0) hq ht hR
end
theorem bld_checkK (B b : Nat) (bs : List Value) (w : World) (h : Lib.IsBuilder 75 5 B b bs w) :
    Calls Tryd.prog 88 #[.pointer (some ⟨b, 0, none⟩)] w fun e w' => e = .returned (.tuple #[]) ∧ (Lib.BuilderAt 75 5 B b (.pointer (some ⟨b, 0, none⟩)) bs w' ∧ Below B w w' ∧ BK b w w') := by
  rcases h with h | h
  · refine (bld_check_fresh b w h.cell0 h.shape h.frozen0).mono ?_
    rintro e w' ⟨rfl, rfl⟩
    exact ⟨rfl, h.used _, (Below.refl B w).setCell (p := ⟨b, 0, none⟩) h.1 _, BK.setCell _ _⟩
  · refine (bld_check_used b w h.cell0).mono ?_
    rintro e w' ⟨rfl, rfl⟩
    exact ⟨rfl, h, Below.refl B _, BK.refl _ _⟩
set_option maxHeartbeats 2000000 in
set_option maxRecDepth 100000 in
/-- WriteString -/
theorem bld_str (B b : Nat) (bs : List Value) (s : ByteArray) (w : World) (h : Lib.IsBuilder 75 5 B b bs w) (hlen : bs.length + s.size ≤ 140737488355328) (hBw : B ≤ w.heap.size) :
    Calls Tryd.prog 67 #[.pointer (some ⟨b, 0, none⟩), .string s] w fun e w' => e = .returned (.tuple #[.int .i64 s.size, .nilIface]) ∧ (Lib.IsBuilder 75 5 B b (bs ++ Lib.strCells s) w' ∧ Below B w w' ∧ BK b w w') := by
  obtain ⟨i0, hi, hz0, hz1, hz2⟩ := info_parts byte_info
  go_enter Tryd.func67, Tryd.ntmps67
  go_wp2_with (go_at_call 88; refine (bld_checkK B b bs _ h).mono ?_)
  rintro e w1 ⟨rfl, h1, hb1, hk1⟩
  obtain ⟨hB, v, hbk, hown, hne⟩ := h1
  have c0 : w1.cell? ⟨b, 0, none⟩ = some (.pointer (some ⟨b, 0, none⟩)) := by rw [Lib.cell_of_heap hbk]; rfl
  have c1 : w1.cell? ⟨b, 1, none⟩ = some v := by rw [Lib.cell_of_heap hbk]; rfl
  have HK1 := Lib.hid hk1
  clear hk1
  go_wp2_with (at_builtin; refine Lib.wpList_append_own_string _ rfl _ _ 73 9 rfl B 5 i0 Tryd.underlying73 Tryd.underlying9 hi hz0 hz1 hz2 _ _ _ rfl hown s rfl ?c3 ?c4 ?c5 ?_)
  case c3 => unfold maxLen; omega
  case c4 => omega
  case c5 => have := hb1.size; omega
  intro v' w2 hown' hgrow _
  have hlt : b < w1.heap.size := by
    rcases Nat.lt_or_ge b w1.heap.size with h' | h'
    · exact h'
    · simp [Array.getElem?_eq_none h'] at hbk
  have hb2 : w2.heap[b]? = some (.cells #[.pointer (some ⟨b, 0, none⟩), v] 75 (0, 0)) := by
    rw [hgrow.block b hlt (fun e => hne e.symm)]
    exact hbk
  have d0 : w2.cell? ⟨b, 0, none⟩ = some (.pointer (some ⟨b, 0, none⟩)) := by rw [Lib.cell_of_heap hb2]; rfl
  have d1 : w2.cell? ⟨b, 1, none⟩ = some v := by rw [Lib.cell_of_heap hb2]; rfl
  have f1 : w2.frozen? ⟨b, 1, none⟩ = false := Lib.frozen_of_heap hb2 1
  have HK2 := Lib.hid (HK1.out.trans (BK.grown (b := b) hown hgrow))
  obtain ⟨ao, n', cap, rfl⟩ : ∃ ao n' cap, v' = .slice ao n' cap := by
    rcases hown'.2 with ⟨hv, _⟩ | ⟨g, cap, cur, hv, _⟩
    · exact ⟨_, _, _, hv⟩
    · exact ⟨_, _, _, hv⟩
  go_wp2
  go_ret2
  refine ⟨rfl, .inr ?_, ?_, HK2.out.trans (BK.setCell _ _)⟩
  · exact Lib.BuilderAt.put (T := 75) (e := 5) hB hb2 (bs' := bs ++ Lib.strCells s) (by simpa [Lib.strCells_length] using hown') (by decide)
  · exact (hb1.grown hgrow (by have := hb1.size; omega) (fun k hk => (hown.lt k hk).1)).setCell (p := ⟨b, 1, none⟩) hB _
set_option maxHeartbeats 2000000 in
set_option maxRecDepth 100000 in
/-- WriteByte -/
theorem bld_byte (B b : Nat) (bs : List Value) (c : Int) (w : World) (h : Lib.IsBuilder 75 5 B b bs w) (hlen : bs.length + 1 ≤ 140737488355328) (hBw : B ≤ w.heap.size) :
    Calls Tryd.prog 71 #[.pointer (some ⟨b, 0, none⟩), .int .u8 c] w fun e w' => e = .returned .nilIface ∧ (Lib.IsBuilder 75 5 B b (bs ++ [.int .u8 c]) w' ∧ Below B w w' ∧ BK b w w') := by
  obtain ⟨i0, hi, hz0, hz1, hz2⟩ := info_parts byte_info
  go_enter Tryd.func71, Tryd.ntmps71
  go_wp2_with (go_at_call 88; refine (bld_checkK B b bs _ h).mono ?_)
  rintro e w1 ⟨rfl, h1, hb1, hk1⟩
  obtain ⟨hB, v, hbk, hown, hne⟩ := h1
  have c0 : w1.cell? ⟨b, 0, none⟩ = some (.pointer (some ⟨b, 0, none⟩)) := by rw [Lib.cell_of_heap hbk]; rfl
  have c1 : w1.cell? ⟨b, 1, none⟩ = some v := by rw [Lib.cell_of_heap hbk]; rfl
  have HK1 := Lib.hid hk1
  clear hk1
  go_wp2_with (at_builtin; refine wpList_append_own _ rfl _ _ 73 rfl B 5 i0 (.int .u8 0) 1 1 Tryd.underlying73 hi hz0 hz1 hz2 rfl (by decide) _ _ _ rfl (hown.alloc _) ⟨w1.heap.size, 0, none⟩ 1 1 [.int .u8 c] rfl rfl ?c1 ?c2 ?c3 ?c4 ?c5 ?_)
  case c1 =>
    intro j u hj
    match j, hj with
    | 0, hj => simp at hj; subst hj; simp [Addr.add]
  case c2 => intro u hu; simp at hu; subst hu; rfl
  case c3 => unfold maxLen; omega
  case c4 => omega
  case c5 => have := hb1.size; simp; omega
  intro v' w2 hown' hgrow _
  have hlt : b < w1.heap.size := by
    rcases Nat.lt_or_ge b w1.heap.size with h' | h'
    · exact h'
    · simp [Array.getElem?_eq_none h'] at hbk
  have hb2 : w2.heap[b]? = some (.cells #[.pointer (some ⟨b, 0, none⟩), v] 75 (0, 0)) := by
    rw [hgrow.block b (by simp; omega) (fun e => hne e.symm), Lib.alloc_old w1 _ b hlt]
    exact hbk
  have d0 : w2.cell? ⟨b, 0, none⟩ = some (.pointer (some ⟨b, 0, none⟩)) := by rw [Lib.cell_of_heap hb2]; rfl
  have d1 : w2.cell? ⟨b, 1, none⟩ = some v := by rw [Lib.cell_of_heap hb2]; rfl
  have f1 : w2.frozen? ⟨b, 1, none⟩ = false := Lib.frozen_of_heap hb2 1
  have HK2 := Lib.hid ((HK1.out.trans (BK.below (ext_alloc w1 _))).trans (BK.grown (b := b) (hown.alloc _) hgrow))
  obtain ⟨g, cap, rfl⟩ : ∃ g cap, v' = .slice (some ⟨g, 0, none⟩) (bs.length + 1) cap := by
    rcases hown'.2 with ⟨_, h0⟩ | ⟨g, cap, cur, hv, _⟩
    · omega
    · exact ⟨g, cap, hv⟩
  go_wp2
  go_ret
  refine ⟨rfl, .inr ?_, ?_, HK2.out.trans (BK.setCell _ _)⟩
  · exact Lib.BuilderAt.put (T := 75) (e := 5) hB hb2 (bs' := bs ++ [.int .u8 c]) (by simpa using hown') (by decide)
  · exact ((hb1.alloc (by have := hb1.size; omega) _).grown hgrow (by have := hb1.size; simp; omega) (fun k hk => (hown.lt k hk).1)).setCell (p := ⟨b, 1, none⟩) hB _
end Fd
end Go.Proofs.YtbhcfmdogdaodaaDoor
namespace Go.Proofs.YtbhcfmdogdaodaaDoor
open Go.RowKit
namespace Fd
open _root_.Go.Proofs.YtbhcfmdogdaodaaDoor.Nt (RH RH.cell RH.box RH.lt RH.new RH.ext RH.fre RH.set RH.other)
open _root_.Go.Proofs.YtbhcfmdogdaodaaDoor.Rw (All2 All2.get All2.length wpList_load_agg wp_stored)
/-- a builder that holds the bytes l -/
def IsB (B b : Nat) (l : List UInt8) (w : World) : Prop := Lib.IsBuilder 75 5 B b (Lib.byteCells l) w
/-- what a call that writes t leaves -/
def WrPost (B b : Nat) (l t : List UInt8) (w : World) (e : Ending) (w' : World) : Prop := e = .returned (.tuple #[]) ∧ IsB B b (l ++ t) w' ∧ Below B w w' ∧ BK b w w' ∧ w.heap.size ≤ w'.heap.size
theorem wbyte (B b : Nat) (l : List UInt8) (c : UInt8) (w : World) (h : IsB B b l w) (hlen : l.length + 1 ≤ 140737488355328) (hBw : B ≤ w.heap.size) :
    Calls Tryd.prog 71 #[.pointer (some ⟨b, 0, none⟩), .int .u8 c.toNat] w fun e w' => e = .returned .nilIface ∧ (IsB B b (l ++ [c]) w' ∧ Below B w w' ∧ BK b w w' ∧ w.heap.size ≤ w'.heap.size) := by
  refine (bld_byte B b _ c.toNat w h (by rw [Lib.byteCells_length]; exact hlen) hBw).mono ?_
  rintro e w' ⟨rfl, h1, h2, h3⟩
  refine ⟨rfl, ?_, h2, h3, h2.size⟩
  unfold IsB
  rw [Lib.byteCells_append]; exact h1
theorem wstr (B b : Nat) (l : List UInt8) (s : ByteArray) (w : World) (h : IsB B b l w) (hlen : l.length + s.size ≤ 140737488355328) (hBw : B ≤ w.heap.size) :
    Calls Tryd.prog 67 #[.pointer (some ⟨b, 0, none⟩), .string s] w fun e w' => e = .returned (.tuple #[.int .i64 s.size, .nilIface]) ∧ (IsB B b (l ++ s.data.toList) w' ∧ Below B w w' ∧ BK b w w' ∧ w.heap.size ≤ w'.heap.size) := by
  refine (bld_str B b _ s w h (by rw [Lib.byteCells_length]; exact hlen) hBw).mono ?_
  rintro e w' ⟨rfl, h1, h2, h3⟩
  refine ⟨rfl, ?_, h2, h3, h2.size⟩
  unfold IsB
  rw [Lib.byteCells_append]; exact h1
set_option maxRecDepth 100000 in
set_option maxHeartbeats 16000000 in
theorem quote_at (B b : Nat) (l : List UInt8) (s : ByteArray) (w : World) (h : IsB B b l w) (hlen : l.length + 2 * s.size ≤ 140737488355000) (hBw : B ≤ w.heap.size) :
    Calls Tryd.prog 70 #[.pointer (some ⟨b, 0, none⟩), .string s] w (WrPost B b l (quoL s.data.toList) w) := by
  have HI := Lib.hid h
  have hsz : s.data.toList.length = s.size := (Lib.size_eq s).symm
  have HLS := Lib.hid hsz
  have hsl : (s.size : Int) ≤ 9223372036854775807 := by omega
  have HLN := Lib.hid hlen
  have HBW := Lib.hid hBw
  have HE : Hid (∀ k, k ≤ s.size → (escL (s.data.toList.take k)).length ≤ 2 * s.size) := Lib.hid (fun k hk => by
    have h1 := esc_len (s.data.toList.take k)
    rw [List.length_take, hsz] at h1
    omega)
  clear h hlen hBw hsz
  go_enter Tryd.func70, Tryd.ntmps70
  go_wp2_with fail
  refine (wbyte B b l 34 w HI.out (by have := HLN.out; omega) HBW.out).mono ?_
  rintro e w1 ⟨rfl, h1, hb1, hk1, hs1⟩
  have HI1 := Lib.hid h1
  have HB1 := Lib.hid hb1
  have HK1 := Lib.hid hk1
  have HS1 := Lib.hid hs1
  clear h1 hb1 hk1 hs1
  go_wp2_with fail
  go_loopw [9] (fun i wr => ∃ k : Nat, k ≤ s.size ∧ i = .int .i64 (k : Int) ∧ Hid (IsB B b (l ++ 34 :: escL (s.data.toList.take k)) wr) ∧ Hid (Below B w wr) ∧ Hid (BK b w wr) ∧ Hid (w.heap.size ≤ wr.heap.size)) (fun i _ => s.size - (intOf i).toNat)
  case atStart => exact ⟨0, Nat.zero_le _, rfl, HI1, HB1, HK1, HS1⟩
  case round =>
    clear HI1 HB1 HK1 HS1
    obtain ⟨k, hk, rfl, HI1, HB1, HK1, HS1⟩ := hrel
    generalize hXX : wr = X at *
    clear hXX
    by_cases hlt : k < s.size
    · have hki : (k : Int) < (s.size : Int) := by omega
      have hk0 : (0 : Int) ≤ (k : Int) := Int.natCast_nonneg _
      have HT : Hid (l ++ 34 :: escL (s.data.toList.take (k + 1)) = (l ++ 34 :: escL (s.data.toList.take k)) ++ escB s[k]) := Lib.hid (by
        have h1 : k < s.data.toList.length := by rw [HLS.out]; exact hlt
        rw [List.take_succ_eq_append_getElem h1, esc_append]
        simp [escL]
        rfl)
      have HL : Hid ((l ++ 34 :: escL (s.data.toList.take k)).length + 2 ≤ 140737488355328) := Lib.hid (by
        have h1 := HE.out k hk
        have h2 := HLN.out
        rw [List.length_append, List.length_cons]
        omega)
      by_cases hq : (s[k].toNat : Int) = 34
      · have HE2 : Hid (escB s[k] = [92, s[k]]) := Lib.hid (by
          have e : s[k] = 34 := UInt8.toNat_inj.1 (by show s[k].toNat = 34; omega)
          unfold escB; rw [if_pos (Or.inl e)])
        have hqb : ((s[k].toNat : Int) == 34) = true := by simpa using hq
        clear hq
        go_wp2_with fail
        refine (wbyte B b _ 92 X HI1.out (by have := HL.out; omega) (Nat.le_trans HBW.out HS1.out)).mono ?_
        rintro e w2 ⟨rfl, h2, hb2, hk2, hs2⟩
        have HI2 := Lib.hid h2
        have HB2 := Lib.hid (HB1.out.trans hb2)
        have HK2 := Lib.hid (HK1.out.trans hk2)
        have HS2 := Lib.hid (Nat.le_trans HS1.out hs2)
        clear h2 hb2 hk2 hs2
        go_wp2_with fail
        refine (wbyte B b _ s[k] w2 HI2.out (by have := HL.out; rw [List.length_append]; simp only [List.length_singleton]; omega) (Nat.le_trans HBW.out HS2.out)).mono ?_
        rintro e w3 ⟨rfl, h3, hb3, hk3, hs3⟩
        have HI3 : Hid (IsB B b (l ++ 34 :: escL (s.data.toList.take (k + 1))) w3) := Lib.hid (by rw [HT.out, HE2.out]; rw [List.append_assoc] at h3; exact h3)
        have HB3 := Lib.hid (HB2.out.trans hb3)
        have HK3 := Lib.hid (HK2.out.trans hk3)
        have HS3 := Lib.hid (Nat.le_trans HS2.out hs3)
        clear h3 hb3 hk3 hs3
        go_wp2_with fail
        go_roundw
        case rel => exact ⟨k + 1, by omega, by go_num, HI3, HB3, HK3, HS3⟩
        case measure => simp [intOf]; omega
      · by_cases hp : (s[k].toNat : Int) = 92
        · have HE2 : Hid (escB s[k] = [92, s[k]]) := Lib.hid (by
            have e : s[k] = 92 := UInt8.toNat_inj.1 (by show s[k].toNat = 92; omega)
            unfold escB; rw [if_pos (Or.inr e)])
          have hqb : ((s[k].toNat : Int) == 34) = false := by simpa using hq
          have hpb : ((s[k].toNat : Int) == 92) = true := by simpa using hp
          clear hp hq
          go_wp2_with fail
          refine (wbyte B b _ 92 X HI1.out (by have := HL.out; omega) (Nat.le_trans HBW.out HS1.out)).mono ?_
          rintro e w2 ⟨rfl, h2, hb2, hk2, hs2⟩
          have HI2 := Lib.hid h2
          have HB2 := Lib.hid (HB1.out.trans hb2)
          have HK2 := Lib.hid (HK1.out.trans hk2)
          have HS2 := Lib.hid (Nat.le_trans HS1.out hs2)
          clear h2 hb2 hk2 hs2
          go_wp2_with fail
          refine (wbyte B b _ s[k] w2 HI2.out (by have := HL.out; rw [List.length_append]; simp only [List.length_singleton]; omega) (Nat.le_trans HBW.out HS2.out)).mono ?_
          rintro e w3 ⟨rfl, h3, hb3, hk3, hs3⟩
          have HI3 : Hid (IsB B b (l ++ 34 :: escL (s.data.toList.take (k + 1))) w3) := Lib.hid (by rw [HT.out, HE2.out]; rw [List.append_assoc] at h3; exact h3)
          have HB3 := Lib.hid (HB2.out.trans hb3)
          have HK3 := Lib.hid (HK2.out.trans hk3)
          have HS3 := Lib.hid (Nat.le_trans HS2.out hs3)
          clear h3 hb3 hk3 hs3
          go_wp2_with fail
          go_roundw
          case rel => exact ⟨k + 1, by omega, by go_num, HI3, HB3, HK3, HS3⟩
          case measure => simp [intOf]; omega
        · have HE2 : Hid (escB s[k] = [s[k]]) := Lib.hid (by
            unfold escB
            rw [if_neg (fun h => ?_)]
            rcases h with h | h
            · exact hq (by rw [h]; rfl)
            · exact hp (by rw [h]; rfl))
          have hqb : ((s[k].toNat : Int) == 34) = false := by simpa using hq
          have hpb : ((s[k].toNat : Int) == 92) = false := by simpa using hp
          clear hp hq
          go_wp2_with fail
          refine (wbyte B b _ s[k] X HI1.out (by have := HL.out; omega) (Nat.le_trans HBW.out HS1.out)).mono ?_
          rintro e w3 ⟨rfl, h3, hb3, hk3, hs3⟩
          have HI3 : Hid (IsB B b (l ++ 34 :: escL (s.data.toList.take (k + 1))) w3) := Lib.hid (by rw [HT.out, HE2.out]; exact h3)
          have HB3 := Lib.hid (HB1.out.trans hb3)
          have HK3 := Lib.hid (HK1.out.trans hk3)
          have HS3 := Lib.hid (Nat.le_trans HS1.out hs3)
          clear h3 hb3 hk3 hs3
          go_wp2_with fail
          go_roundw
          case rel => exact ⟨k + 1, by omega, by go_num, HI3, HB3, HK3, HS3⟩
          case measure => simp [intOf]; omega
    · obtain rfl : k = s.size := by omega
      have HT : Hid ((l ++ 34 :: escL (s.data.toList.take s.size)) ++ [34] = l ++ quoL s.data.toList) := Lib.hid (by
        rw [List.take_of_length_le (by have := HLS.out; omega)]
        unfold quoL; simp)
      have HL : Hid ((l ++ 34 :: escL (s.data.toList.take s.size)).length + 2 ≤ 140737488355328) := Lib.hid (by
        have h1 := HE.out s.size (Nat.le_refl _)
        have h2 := HLN.out
        rw [List.length_append, List.length_cons]
        omega)
      go_wp2_with fail
      refine (wbyte B b _ 34 X HI1.out (by have := HL.out; omega) (Nat.le_trans HBW.out HS1.out)).mono ?_
      rintro e w3 ⟨rfl, h3, hb3, hk3, hs3⟩
      rw [HT.out] at h3
      have HF : Hid (WrPost B b l (quoL s.data.toList) w (.returned (.tuple #[])) w3) := Lib.hid ⟨rfl, h3, HB1.out.trans hb3, HK1.out.trans hk3, Nat.le_trans HS1.out hs3⟩
      clear h3 hb3 hk3 hs3
      go_wp2_with fail
      go_end0
      exact HF.out
end Fd
end Go.Proofs.YtbhcfmdogdaodaaDoor
