/- Plain: the entries of a patch one by one; entries sorted by name are the fields laid in; a row of fields that grows at its end. Plain: how many parts a merged value and a patch have at most; the least patch laid in field by field. No program stands in it. WriteString of a strings.Builder of the call's own (the builder's other methods stand in the shelf). WriteString and WriteByte of a strings.Builder of the call's own, and what they leave as it was: all blocks but the builder's own. allDigits, whole, isPre, within of package value. strings.TrimLeft at one zero, cmp.Or at three ints, comparePre, slices.CompareFunc by comparePre. (Spl without versions) Texts split and joined; numerals written and read: the library's contracts at the seat, in plain words. -/
import Derived.Test.YtkjgifhklajifaaDoorDv06
import Derived.Test.YtkjgifhklajifaaDoorDv01
import Derived.Test.YtkjgifhklajifaaDoorProg
import Derived.Test.YtkjgifhklajifaaDoorDv00
import Derived.Lib.Strings
import Derived.Lib.Walk
import Derived.Lib.Builder
import Derived.Lib.AppendStr
import Derived.WalkKit
import Derived.Laws.Externs
import Derived.Test.YtkjgifhklajifaaDoorDv02
import Derived.Test.YtkjgifhklajifaaDoorShelf
import Derived.Lib.SmallJoins
import Derived.Lib.AppendIntMem
namespace Go.Proofs.YtkjgifhklajifaaDoor
open Go.RowKit
namespace Fd
open _root_.Go.Proofs.YtkjgifhklajifaaDoor.Rw (All2 All2.length All2.get All2.mono All2.append Kept Fresh)
/-- the fields of the second value that the first lacks -/
def newF (fs ts : List F) : List F := ts.filter fun f => (lk fs (nmF f)).isNone
theorem ents_is (fs ts : List F) : ents fs ts = patchFs fs ts ++ newF fs ts := rfl
section
variable {N : Nat} {w w' : World} {fs : List F} {E : List (List Value)}
end
end Fd
end Go.Proofs.YtkjgifhklajifaaDoor
namespace Go.Proofs.YtkjgifhklajifaaDoor
namespace Fd
theorem pNF_put (nm : ByteArray) (m : V) : ∀ l : List F, pNF (putF nm m l) ≤ pNF l + pN m
  | [] => by unfold putF; simp only [pNF]; omega
  | .mk a x :: r => by
    have := pNF_put nm m r
    unfold putF
    split
    · simp only [pNF]; omega
    · split
      · simp only [pNF]; omega
      · simp only [pNF]; omega
theorem pNF_put_some {nm : ByteArray} {m old : V} : ∀ {l : List F}, Srt l → lk l nm = some old → pNF (putF nm m l) + pN old ≤ pNF l + pN m
  | [], _, h => by cases h
  | .mk a x :: r, hs, h => by
    obtain ⟨h1, h2⟩ := List.pairwise_cons.1 hs
    unfold putF
    rw [lk] at h
    by_cases e : a = nm
    · rw [if_pos (show nmF (.mk a x) = nm from e)] at h
      have h : x = old := by injection h
      subst h; subst e
      rw [if_neg (show ¬ cmpS a (nmF (F.mk a x)) < 0 by show ¬ cmpS a a < 0; rw [cmpS_self]; omega), if_pos (show a = nmF (F.mk a x) from rfl)]
      simp only [pNF]; omega
    · rw [if_neg (show ¬ nmF (.mk a x) = nm from e)] at h
      have h3 : cmpS a nm < 0 := h1 _ (lk_mem h)
      have h4 := cmpS_anti a nm
      have := pNF_put_some (m := m) h2 h
      rw [if_neg (show ¬ cmpS nm (nmF (F.mk a x)) < 0 from fun h9 => by have h9 : cmpS nm a < 0 := h9; omega), if_neg (show ¬ nm = nmF (F.mk a x) from fun e' => e e'.symm)]
      simp only [pNF]; omega
theorem pNF_filter (p : F → Bool) : ∀ l : List F, pNF (l.filter p) ≤ pNF l
  | [] => by simp [pNF]
  | .mk a x :: r => by
    have := pNF_filter p r
    rw [List.filter_cons]
    split
    · simp only [pNF]; omega
    · simp only [pNF]; omega
theorem pNF_drop_some {nm : ByteArray} {t : V} : ∀ {l : List F}, lk l nm = some t → pNF (dropF nm l) + pN t ≤ pNF l
  | [], h => by cases h
  | .mk a x :: r, h => by
    rw [lk] at h
    unfold dropF
    rw [List.filter_cons]
    by_cases e : a = nm
    · rw [if_pos (show nmF (.mk a x) = nm from e)] at h
      have h : x = t := by injection h
      subst h
      have := pNF_filter (fun f => decide (nmF f ≠ nm)) r
      rw [if_neg (by simp [nmF, e])]
      simp only [pNF]; omega
    · rw [if_neg (show ¬ nmF (.mk a x) = nm from e)] at h
      have := pNF_drop_some h
      unfold dropF at this
      rw [if_pos (by simp [nmF, e])]
      simp only [pNF]; omega
theorem pN_zero : pN V0 = 1 := by simp [V0, pN, pNL, pNF]
theorem pN_setFields (v : V) (fs : List F) : pN (setFields v fs) = 1 + pNL (items v) + pNF fs := by
  obtain ⟨k, n, s, is, fs0⟩ := v; rfl
theorem pN_obj (fs : List F) : pN (obj fs) = 1 + pNF fs := by simp [obj, pN, pNL]
theorem pN_own (v : V) : pN v = 1 + pNL (items v) + pNF (fields v) := by obtain ⟨k, n, s, is, fs⟩ := v; rfl
mutual
theorem pN_merge : ∀ {x p : V}, chkV x = 0 → chkV p = 0 → pN (mergeV x p) + 1 ≤ pN x + pN p
  | x, .mk k n s is us, hx, hp => by
    have hpos := pN_pos x
    simp only [mergeV]
    by_cases hk : k ≠ 5
    · rw [if_pos hk]; omega
    · rw [if_neg hk, pN_setFields]
      obtain ⟨hb1, hb2⟩ := base_right hx
      obtain ⟨hu1, hu2⟩ : Srt us ∧ ∀ f ∈ us, chkV (vlF f) = 0 := fields_ok hp
      have h := pNF_merge us (out := fields (base x)) hb1 (fun f _ y h => hb2 _ (lk_mem h)) (srt_ne' hu1) hu2
      have hb : pN (base x) ≤ pN x := by
        unfold base
        split
        · exact Nat.le_refl _
        · rw [pN_obj]; simp only [pNF]; exact hpos
      rw [pN_own (base x)] at hb
      simp only [pN]; omega
theorem pNF_merge : ∀ (us : List F) {out : List F}, Srt out → (∀ f ∈ us, ∀ y, lk out (nmF f) = some y → chkV y = 0) → (us.Pairwise fun a b => nmF a ≠ nmF b) → (∀ f ∈ us, chkV (vlF f) = 0) → pNF (mergeFs out us) ≤ pNF out + pNF us
  | [], out, _, _, _, _ => by simp only [mergeFs, pNF]; omega
  | .mk nm x :: r, out, hs, hc, hn, hu => by
    obtain ⟨n1, n2⟩ := List.pairwise_cons.1 hn
    have hx : chkV x = 0 := hu (.mk nm x) (by simp)
    have hu' : ∀ f ∈ r, chkV (vlF f) = 0 := fun f hf => hu f (by simp [hf])
    simp only [mergeFs]
    by_cases hk : kind x = 0
    · rw [if_pos hk]
      have h := pNF_merge r (out := dropF nm out) (srt_drop hs nm) (fun f hf y hy => by rw [lk_drop, if_neg (show ¬ nm = nmF f from n1 f hf)] at hy; exact hc f (by simp [hf]) y hy) n2 hu'
      have := pNF_filter (fun f => decide (nmF f ≠ nm)) out
      unfold dropF at h ⊢
      simp only [pNF]; omega
    · rw [if_neg hk]
      have h := pNF_merge r (out := putF nm (mergeV ((lk out nm).getD V0) x) out) (srt_put hs nm _) (fun f hf y hy => by rw [lk_put hs, if_neg (show ¬ nm = nmF f from n1 f hf)] at hy; exact hc f (by simp [hf]) y hy) n2 hu'
      cases hl : lk out nm with
      | none =>
        rw [hl] at h
        have h1 := pN_merge (x := V0) (p := x) (by decide) hx
        have h2 := pNF_put nm (mergeV V0 x) out
        rw [pN_zero] at h1
        simp only [Option.getD_none] at h ⊢
        simp only [pNF]; omega
      | some old =>
        rw [hl] at h
        have h1 := pN_merge (x := old) (p := x) (hc (.mk nm x) (by simp) old hl) hx
        have h2 := pNF_put_some (m := mergeV old x) hs hl
        simp only [Option.getD_some] at h ⊢
        simp only [pNF]; omega
end
theorem pNF_putAll : ∀ (us out : List F), pNF (putAll out us) ≤ pNF out + pNF us
  | [], out => by unfold putAll; simp [pNF]
  | .mk nm x :: r, out => by
    have h := pNF_putAll r (putF nm x out)
    have h2 := pNF_put nm x out
    show pNF (putAll (putF nm x out) r) ≤ _
    simp only [pNF]; omega
theorem lk_cons_ne {f : F} {r : List F} {m : ByteArray} (h : nmF f ≠ m) : lk (f :: r) m = lk r m := by rw [lk, if_neg h]
theorem patchFs_drop (nm : ByteArray) (ts : List F) : ∀ {r : List F}, (∀ f ∈ r, nm ≠ nmF f) → patchFs r ts = patchFs r (dropF nm ts)
  | [], _ => by simp only [patchFs]
  | .mk a x :: r, h => by
    have ha : ¬ nm = a := h (.mk a x) (by simp)
    simp only [patchFs]
    rw [lk_drop, if_neg ha, patchFs_drop nm ts (fun f hf => h f (by simp [hf]))]
theorem newF_cons_none {f : F} {r ts : List F} (h : lk ts (nmF f) = none) : newF (f :: r) ts = newF r ts := by
  unfold newF
  refine List.filter_congr (fun t ht => ?_)
  rw [lk_cons_ne (fun e => by
    have h2 := lk_isSome.1 ⟨t, ht, e.symm⟩
    rw [h] at h2
    obtain ⟨_, h2⟩ := h2
    cases h2)]
theorem newF_cons_some (f : F) (r ts : List F) : newF (f :: r) ts = newF r (dropF (nmF f) ts) := by
  unfold newF dropF
  rw [List.filter_filter]
  refine List.filter_congr (fun t _ => ?_)
  by_cases e : nmF f = nmF t
  · rw [lk, if_pos e]
    simp [e]
  · rw [lk_cons_ne e]
    simp
    exact fun _ e' => e e'.symm
mutual
theorem pN_patch : ∀ {x : V} (y : V), chkV x = 0 → pN (patchV x y) ≤ pN x + pN y
  | .mk k n s is fs, y, hx => by
    by_cases h : k ≠ 5 ∨ kind y ≠ 5
    · have e1 : patchV (.mk k n s is fs) y = y := by unfold patchV; rw [if_pos h]
      rw [e1]; omega
    · have hk : k = 5 := Classical.byContradiction fun e => h (.inl e)
      have hky : kind y = 5 := Classical.byContradiction fun e => h (.inr e)
      rw [patchV_obj hk hky, pN_obj]
      obtain ⟨hf1, hf2⟩ : Srt fs ∧ ∀ f ∈ fs, chkV (vlF f) = 0 := fields_ok hx
      have h1 := pNF_putAll (ents fs (fields y)) []
      have h2 := pNF_patch fs (fields y) (srt_ne' hf1) hf2
      rw [ents_is, pNF_append] at h1
      rw [pN_own y]
      simp only [pN, pNF] at h1 ⊢
      rw [ents_is]; omega
theorem pNF_patch : ∀ (fs ts : List F), (fs.Pairwise fun a b => nmF a ≠ nmF b) → (∀ f ∈ fs, chkV (vlF f) = 0) → pNF (patchFs fs ts) + pNF (newF fs ts) ≤ pNF fs + pNF ts
  | [], ts, _, _ => by
    have : newF [] ts = ts := by unfold newF; simp [lk]
    rw [this]; simp only [patchFs, pNF]; omega
  | .mk nm x :: r, ts, hn, hc => by
    obtain ⟨n1, n2⟩ := List.pairwise_cons.1 hn
    have hx : chkV x = 0 := hc (.mk nm x) (by simp)
    have hc' : ∀ f ∈ r, chkV (vlF f) = 0 := fun f hf => hc f (by simp [hf])
    have hpos := pN_pos x
    cases hl : lk ts nm with
    | none =>
      have h := pNF_patch r ts n2 hc'
      rw [newF_cons_none (f := .mk nm x) hl]
      simp only [patchFs, hl, pNF, pN_zero]; omega
    | some t =>
      have h := pNF_patch r (dropF nm ts) n2 hc'
      have hd := pNF_drop_some hl
      have hp := pN_patch (x := x) t hx
      rw [newF_cons_some]
      simp only [patchFs, hl, nmF]
      rw [patchFs_drop nm ts n1]
      split
      · simp only [pNF]; omega
      · simp only [pNF]; omega
end
end Fd
end Go.Proofs.YtkjgifhklajifaaDoor
namespace Go.Proofs.YtkjgifhklajifaaDoor
open Go.RowKit
theorem bld_info : ∃ j, Tryd.prog.info? 76 = some j ∧ j.size = 2 :=
  Option.map_eq_some_iff.1 (show (Tryd.prog.info? 76).map (·.size) = some 2 by kernel_rfl)
theorem bld_lies : liesAt Tryd.prog Tryd.prog.depth 76 (2 / Tryd.prog.cellsOf 76) 0 76 1 = true := by kernel_rfl
theorem byte_info : (Tryd.prog.info? 5).map (fun i => (i.zero, i.size, i.bytes)) = some (some (.int .u8 0), 1, 1) := by kernel_rfl
set_option maxHeartbeats 1000000 in
set_option maxRecDepth 100000 in
theorem bld_check_used (b : Nat) (w : World) (h0 : w.cell? ⟨b, 0, none⟩ = some (.pointer (some ⟨b, 0, none⟩))) :
    Calls Tryd.prog 99 #[.pointer (some ⟨b, 0, none⟩)] w fun e w' => e = .returned (.tuple #[]) ∧ w' = w := by
  obtain ⟨j, hj, _⟩ := bld_info
  go_enter Tryd.func99, Tryd.ntmps99
  go_wp2
  rw [Lib.run_neq_ptr_same w _ Tryd.underlying73 hj]
  go_wp2
  go_end0
  exact ⟨rfl, rfl⟩
set_option maxHeartbeats 1000000 in
set_option maxRecDepth 100000 in
theorem bld_check_fresh (b : Nat) (w : World) (h0 : w.cell? ⟨b, 0, none⟩ = some (.pointer none)) (hsh : w.shape? b = some (76, 2)) (hfz : w.frozen? ⟨b, 0, none⟩ = false) :
    Calls Tryd.prog 99 #[.pointer (some ⟨b, 0, none⟩)] w fun e w' => e = .returned (.tuple #[]) ∧ w' = w.setCell ⟨b, 0, none⟩ (.pointer (some ⟨b, 0, none⟩)) := by
  obtain ⟨j, hj, hjs⟩ := bld_info
  go_enter Tryd.func99, Tryd.ntmps99
  go_wp2
  rw [Lib.run_to_unsafe w ⟨b, 0, none⟩ Tryd.underlying73 Tryd.underlying139 hj (by rw [hjs]; decide) hsh (Nat.zero_lt_succ 1)]
  simp only [Result.andThen]
  rw [Oper.upon_value]
  go_wp2
  rw [run_callFunc_extern Tryd.func120 (by kernel_rfl) (by kernel_rfl) (by kernel_rfl) (e := Extern.AbiNoEscape.same) (by kernel_rfl)]
  rw [Lib.run_noEscape]
  simp only [Result.andThen]
  rw [Oper.upon_value]
  go_wp2
  rw [Lib.run_from_unsafe w ⟨b, 0, none⟩ Tryd.underlying139 Tryd.underlying73 hj hsh bld_lies]
  simp only [Result.andThen]
  rw [Oper.upon_value]
  go_wp2
  go_end0
  exact ⟨rfl, rfl⟩
end Go.Proofs.YtkjgifhklajifaaDoor
namespace Go.Proofs.YtkjgifhklajifaaDoor
open Go.RowKit
namespace Fd
open _root_.Go.Proofs.YtkjgifhklajifaaDoor.Nt (RH)
/-- all blocks but b and rows of bytes stay -/
def BK (b : Nat) (w w' : World) : Prop := ∀ (q : Nat) (A : Array Value) (t : TypeId) (fr : Nat × Nat), q ≠ b → t ≠ 5 → w.heap[q]? = some (.cells A t fr) → w'.heap[q]? = some (.cells A t fr)
section
variable {b : Nat} {w w' w'' : World}
theorem BK.refl (b : Nat) (w : World) : BK b w w := fun _ _ _ _ _ _ h => h
theorem BK.trans (h : BK b w w') (k : BK b w' w'') : BK b w w'' := fun q A t fr h1 h2 h3 => k q A t fr h1 h2 (h q A t fr h1 h2 h3)
theorem BK.below (h : Below w.heap.size w w') : BK b w w' := fun q A t fr _ _ h3 => (h.block q (by
  rcases Nat.lt_or_ge q w.heap.size with h' | h'
  · exact h'
  · rw [Array.getElem?_eq_none h'] at h3; cases h3)).trans h3
theorem BK.setCell (j : Nat) (v : Value) : BK b w (w.setCell ⟨b, j, none⟩ v) := fun q _A _t _fr h1 _ h3 => (heap_setCell_other w ⟨b, j, none⟩ q v h1).trans h3
theorem BK.grown {B n : Nat} {v : Value} {xs : List Value} (hown : w.ownsRow B 5 1 v n xs) (hg : w.grownBy w' v.ownBlock) : BK b w w' := fun q A t fr _ h2 h3 => by
  have hlt : q < w.heap.size := by
    rcases Nat.lt_or_ge q w.heap.size with h' | h'
    · exact h'
    · rw [Array.getElem?_eq_none h'] at h3; cases h3
  refine (hg.block q hlt (fun e => ?_)).trans h3
  obtain ⟨_, ⟨rfl, _⟩ | ⟨g, cap, cur, rfl, _, hgc, _⟩⟩ := hown
  · cases e
  · cases e
    rw [h3] at hgc
    cases hgc
    exact h2 rfl
theorem BK.rh {q : Nat} {A : Array Value} {t : TypeId} (h : BK b w w') (hR : RH w q A t) (hq : q ≠ b) (ht : t ≠ 5) : RH w' q A t := h q A t (0, 0) hq ht hR
end
theorem bld_checkK (B b : Nat) (bs : List Value) (w : World) (h : Lib.IsBuilder 76 5 B b bs w) :
    Calls Tryd.prog 99 #[.pointer (some ⟨b, 0, none⟩)] w fun e w' => e = .returned (.tuple #[]) ∧ (Lib.BuilderAt 76 5 B b (.pointer (some ⟨b, 0, none⟩)) bs w' ∧ Below B w w' ∧ BK b w w') := by
  rcases h with h | h
  · refine (bld_check_fresh b w h.cell0 h.shape h.frozen0).mono ?_
    rintro e w' ⟨rfl, rfl⟩
    exact ⟨rfl, h.used _, (Below.refl B w).setCell (p := ⟨b, 0, none⟩) h.1 _, BK.setCell _ _⟩
  · refine (bld_check_used b w h.cell0).mono ?_
    rintro e w' ⟨rfl, rfl⟩
    exact ⟨rfl, h, Below.refl B _, BK.refl _ _⟩
set_option maxHeartbeats 2000000 in
set_option maxRecDepth 100000 in
/-- WriteString -/
theorem bld_str (B b : Nat) (bs : List Value) (s : ByteArray) (w : World) (h : Lib.IsBuilder 76 5 B b bs w) (hlen : bs.length + s.size ≤ 140737488355328) (hBw : B ≤ w.heap.size) :
    Calls Tryd.prog 73 #[.pointer (some ⟨b, 0, none⟩), .string s] w fun e w' => e = .returned (.tuple #[.int .i64 s.size, .nilIface]) ∧ (Lib.IsBuilder 76 5 B b (bs ++ Lib.strCells s) w' ∧ Below B w w' ∧ BK b w w') := by
  obtain ⟨i0, hi, hz0, hz1, hz2⟩ := info_parts byte_info
  go_enter Tryd.func73, Tryd.ntmps73
  go_wp2_with (go_at_call 99; refine (bld_checkK B b bs _ h).mono ?_)
  rintro e w1 ⟨rfl, h1, hb1, hk1⟩
  obtain ⟨hB, v, hbk, hown, hne⟩ := h1
  have c0 : w1.cell? ⟨b, 0, none⟩ = some (.pointer (some ⟨b, 0, none⟩)) := by rw [Lib.cell_of_heap hbk]; rfl
  have c1 : w1.cell? ⟨b, 1, none⟩ = some v := by rw [Lib.cell_of_heap hbk]; rfl
  have HK1 := Lib.hid hk1
  clear hk1
  go_wp2_with (at_builtin; refine Lib.wpList_append_own_string _ rfl _ _ 74 9 rfl B 5 i0 Tryd.underlying74 Tryd.underlying9 hi hz0 hz1 hz2 _ _ _ rfl hown s rfl ?c3 ?c4 ?c5 ?_)
  case c3 => unfold maxLen; omega
  case c4 => omega
  case c5 => have := hb1.size; omega
  intro v' w2 hown' hgrow _
  have hlt : b < w1.heap.size := by
    rcases Nat.lt_or_ge b w1.heap.size with h' | h'
    · exact h'
    · simp [Array.getElem?_eq_none h'] at hbk
  have hb2 : w2.heap[b]? = some (.cells #[.pointer (some ⟨b, 0, none⟩), v] 76 (0, 0)) := by
    rw [hgrow.block b hlt (fun e => hne e.symm)]
    exact hbk
  have d0 : w2.cell? ⟨b, 0, none⟩ = some (.pointer (some ⟨b, 0, none⟩)) := by rw [Lib.cell_of_heap hb2]; rfl
  have d1 : w2.cell? ⟨b, 1, none⟩ = some v := by rw [Lib.cell_of_heap hb2]; rfl
  have f1 : w2.frozen? ⟨b, 1, none⟩ = false := Lib.frozen_of_heap hb2 1
  have HK2 := Lib.hid (HK1.out.trans (BK.grown (b := b) hown hgrow))
  obtain ⟨ao, n', cap, rfl⟩ : ∃ ao n' cap, v' = .slice ao n' cap := by
    rcases hown'.2 with ⟨hv, _⟩ | ⟨g, cap, cur, hv, _⟩
    · exact ⟨_, _, _, hv⟩
    · exact ⟨_, _, _, hv⟩
  go_wp2
  go_ret2
  refine ⟨rfl, .inr ?_, ?_, HK2.out.trans (BK.setCell _ _)⟩
  · exact Lib.BuilderAt.put (T := 76) (e := 5) hB hb2 (bs' := bs ++ Lib.strCells s) (by simpa [Lib.strCells_length] using hown') (by decide)
  · exact (hb1.grown hgrow (by have := hb1.size; omega) (fun k hk => (hown.lt k hk).1)).setCell (p := ⟨b, 1, none⟩) hB _
set_option maxHeartbeats 2000000 in
set_option maxRecDepth 100000 in
/-- WriteByte -/
theorem bld_byte (B b : Nat) (bs : List Value) (c : Int) (w : World) (h : Lib.IsBuilder 76 5 B b bs w) (hlen : bs.length + 1 ≤ 140737488355328) (hBw : B ≤ w.heap.size) :
    Calls Tryd.prog 77 #[.pointer (some ⟨b, 0, none⟩), .int .u8 c] w fun e w' => e = .returned .nilIface ∧ (Lib.IsBuilder 76 5 B b (bs ++ [.int .u8 c]) w' ∧ Below B w w' ∧ BK b w w') := by
  obtain ⟨i0, hi, hz0, hz1, hz2⟩ := info_parts byte_info
  go_enter Tryd.func77, Tryd.ntmps77
  go_wp2_with (go_at_call 99; refine (bld_checkK B b bs _ h).mono ?_)
  rintro e w1 ⟨rfl, h1, hb1, hk1⟩
  obtain ⟨hB, v, hbk, hown, hne⟩ := h1
  have c0 : w1.cell? ⟨b, 0, none⟩ = some (.pointer (some ⟨b, 0, none⟩)) := by rw [Lib.cell_of_heap hbk]; rfl
  have c1 : w1.cell? ⟨b, 1, none⟩ = some v := by rw [Lib.cell_of_heap hbk]; rfl
  have HK1 := Lib.hid hk1
  clear hk1
  go_wp2_with (at_builtin; refine wpList_append_own _ rfl _ _ 74 rfl B 5 i0 (.int .u8 0) 1 1 Tryd.underlying74 hi hz0 hz1 hz2 rfl (by decide) _ _ _ rfl (hown.alloc _) ⟨w1.heap.size, 0, none⟩ 1 1 [.int .u8 c] rfl rfl ?c1 ?c2 ?c3 ?c4 ?c5 ?_)
  case c1 =>
    intro j u hj
    match j, hj with
    | 0, hj => simp at hj; subst hj; simp [Addr.add]
  case c2 => intro u hu; simp at hu; subst hu; rfl
  case c3 => unfold maxLen; omega
  case c4 => omega
  case c5 => have := hb1.size; simp; omega
  intro v' w2 hown' hgrow _
  have hlt : b < w1.heap.size := by
    rcases Nat.lt_or_ge b w1.heap.size with h' | h'
    · exact h'
    · simp [Array.getElem?_eq_none h'] at hbk
  have hb2 : w2.heap[b]? = some (.cells #[.pointer (some ⟨b, 0, none⟩), v] 76 (0, 0)) := by
    rw [hgrow.block b (by simp; omega) (fun e => hne e.symm), Lib.alloc_old w1 _ b hlt]
    exact hbk
  have d0 : w2.cell? ⟨b, 0, none⟩ = some (.pointer (some ⟨b, 0, none⟩)) := by rw [Lib.cell_of_heap hb2]; rfl
  have d1 : w2.cell? ⟨b, 1, none⟩ = some v := by rw [Lib.cell_of_heap hb2]; rfl
  have f1 : w2.frozen? ⟨b, 1, none⟩ = false := Lib.frozen_of_heap hb2 1
  have HK2 := Lib.hid ((HK1.out.trans (BK.below (ext_alloc w1 _))).trans (BK.grown (b := b) (hown.alloc _) hgrow))
  obtain ⟨g, cap, rfl⟩ : ∃ g cap, v' = .slice (some ⟨g, 0, none⟩) (bs.length + 1) cap := by
    rcases hown'.2 with ⟨_, h0⟩ | ⟨g, cap, cur, hv, _⟩
    · omega
    · exact ⟨g, cap, hv⟩
  go_wp2
  go_ret
  refine ⟨rfl, .inr ?_, ?_, HK2.out.trans (BK.setCell _ _)⟩
  · exact Lib.BuilderAt.put (T := 76) (e := 5) hB hb2 (bs' := bs ++ [.int .u8 c]) (by simpa using hown') (by decide)
  · exact ((hb1.alloc (by have := hb1.size; omega) _).grown hgrow (by have := hb1.size; simp; omega) (fun k hk => (hown.lt k hk).1)).setCell (p := ⟨b, 1, none⟩) hB _
end Fd
end Go.Proofs.YtkjgifhklajifaaDoor
namespace Go.Proofs.YtkjgifhklajifaaDoor
open Go.RowKit
namespace Dg
theorem ret_bool {a b : Bool} (h : a = b) : Ending.returned (.bool a) = .returned (.bool b) := by rw [h]
theorem all_snoc (p : UInt8 → Bool) (s : ByteArray) (k : Nat) (hk : k < s.size) (h : (s.data.toList.take k).all p = true) (hp : p s[k] = true) : (s.data.toList.take (k + 1)).all p = true := by
  rw [take_snoc s k hk, List.all_append, h]; simp [hp]
theorem all_not (p : UInt8 → Bool) (s : ByteArray) (k : Nat) (hk : k < s.size) (hp : p s[k] = false) : s.data.toList.all p = false := by
  rw [List.all_eq_false]
  exact ⟨s[k], by rw [show s[k] = s.data.toList[k]'(by simpa using hk) from rfl]; exact List.getElem_mem _, by simp [hp]⟩
theorem all_end (p : UInt8 → Bool) (s : ByteArray) (k : Nat) (hk : ¬ k < s.size) (h : (s.data.toList.take k).all p = true) : s.data.toList.all p = true := by
  rwa [List.take_of_length_le (by simp; omega)] at h
end Dg
end Go.Proofs.YtkjgifhklajifaaDoor
namespace Go.Proofs.YtkjgifhklajifaaDoor
open Go.RowKit
def strs (l : List ByteArray) : List Value := l.map Value.string
theorem strs_get {l : List ByteArray} {k : Nat} (h : k < l.length) : (strs l)[k]? = some (.string l[k]) := by simp [strs, h]
theorem Sl.addr {w : World} {a : Option Addr} {n c : Nat} {cs : List Value} (h : Sl w (.slice a n c) n cs) {k : Nat} {x : Value} (hk : cs[k]? = some x) : ∃ b o, a = some ⟨b, o, none⟩ ∧ w.cell? ⟨b, o + k, none⟩ = some x := by
  obtain ⟨a', cap, hv, _, _, _, h3⟩ := h
  cases hv
  exact h3 _ _ hk
end Go.Proofs.YtkjgifhklajifaaDoor
namespace Go.Proofs.YtkjgifhklajifaaDoor
open Go.RowKit
namespace Tx
open _root_.Go.Proofs.YtkjgifhklajifaaDoor.Nm
/-- the table that strconv reads -/
def Tb (w : World) : Prop := Lib.TabIs Tryd.prog w "internal/strconv.uint64pow10" .u64 Lib.pow10Tab
theorem Tb.ext {w w' : World} (h : Tb w) (hb : Below w.heap.size w w') : Tb w' := by
  cases hg : Tryd.prog.globalNamed "internal/strconv.uint64pow10" with
  | none => unfold Tb Lib.TabIs World.var? at h; rw [hg] at h; cases h
  | some g => exact Joins.tab_stays hg h hb (Nat.le_refl _)
/-- the library's own bound holds some number -/
def Ml (w : World) : Prop := ∃ m : Int, w.cell? ⟨0, 0, none⟩ = some (.int .i64 m)
theorem Ml.ext {w w' : World} (h : Ml w) (hb : Below w.heap.size w w') : Ml w' := by
  obtain ⟨m, hm⟩ := h
  exact ⟨m, (hb.cell (World.block_lt_of_cell? _ _ hm)).trans hm⟩
def stB (l : List UInt8) : ByteArray := ⟨l.toArray⟩
theorem stB_list (l : List UInt8) : (stB l).data.toList = l := rfl
theorem stB_self (s : ByteArray) : stB s.data.toList = s := by cases s; simp [stB]
theorem stB_size (l : List UInt8) : (stB l).size = l.length := by simp [stB, ByteArray.size]
theorem itoa_at (n : Nat) (hn : n ≤ 9223372036854775807) (w : World) (ht : Tb w) : Calls Tryd.prog 78 #[.int .i64 (n : Int)] w fun e w' => e = .returned (.string (stB (decS n))) ∧ Below w.heap.size w w' := by
  refine (Tryd.strconv_Itoa (n : Int) (by omega) (by omega) w ht).mono ?_
  rintro e w' ⟨rfl, k, os, rfl⟩
  exact ⟨by rw [itoa_is, itoaS_nat]; rfl, Lib.below_grow _ _ (Nat.le_refl _) _ _⟩
end Tx
end Go.Proofs.YtkjgifhklajifaaDoor
