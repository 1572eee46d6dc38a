/- A row of fields of the call's own: what lies behind its elements lies elsewhere, so that the row may be written. No program stands in it but the types' numbers. Plain: what a patch makes of a value, the least patch, and that the one mends the other. No program stands in it. Plain: where a name stands in fields that are in order; a field taken out there, written there, or laid in there. No program stands in it. -/
import Derived.Test.YtbhcfmdogdaodaaGreatDoorRz03
import Derived.Test.YtbhcfmdogdaodaaGreatDoorRz01
namespace Go.Proofs.YtbhcfmdogdaodaaGreatDoor
open Go.RowKit
namespace Fd
open _root_.Go.Proofs.YtbhcfmdogdaodaaGreatDoor.Rw (All2 All2.length All2.get All2.mono All2.set All2.append All2.take All2.drop Kept Fresh Fresh.now Fresh.kept Fresh.mono fresh_own own_base)
/-- the blocks from N on, but r, that stand in w stand in w' -/
def KX (N : Nat) (r : Option Nat) (w w' : World) : Prop := ∀ q, N ≤ q → q < w.heap.size → some q ≠ r → w'.heap[q]? = w.heap[q]?
theorem KX.refl (N : Nat) (r : Option Nat) (w : World) : KX N r w w := fun _ _ _ _ => rfl
theorem KX.back {N : Nat} {r r' : Option Nat} {w w' w'' : World} (hg : w.grownBy w' r) (hr : r' = r ∨ r' = some w.heap.size) (k : KX N r' w' w'') : KX N r w w'' := fun q h1 h2 h3 =>
  (k q h1 (Nat.lt_of_lt_of_le h2 hg.size) (by rcases hr with rfl | rfl; exact h3; simp; omega)).trans (hg.block q h2 h3)
structure TopF (N : Nat) (w : World) (fs : List F) (v : Value) (E : List (List Value)) : Prop where
  own : w.ownsRow N 54 6 v fs.length E.flatten
  el : All2 (fun f c => ∀ w', KX N v.ownBlock w w' → RepF w' f c) fs E
section
variable {N : Nat} {w w' : World} {fs : List F} {v : Value} {E : List (List Value)}
theorem own_keep {N e size n : Nat} {v : Value} {xs : List Value} (h : w.ownsRow N e size v n xs) (k : Kept N w w') : w'.ownsRow N e size v n xs := by
  obtain ⟨h1, h2 | ⟨g, cap, cur, hv, hB, hg, hr⟩⟩ := h
  · exact ⟨h1, .inl h2⟩
  · exact ⟨h1, .inr ⟨g, cap, cur, hv, hB, (k g hB (Array.getElem?_eq_some_iff.1 hg).1).trans hg, hr⟩⟩
theorem TopF.kept (h : TopF N w fs v E) (hs : w.heap.size ≤ w'.heap.size) (k : Kept N w w') : TopF N w' fs v E :=
  ⟨own_keep h.own k, h.el.mono (fun _ _ hr w'' k' => hr w'' (fun q h1 h2 h3 => (k' q h1 (by omega) h3).trans (k q h1 h2)))⟩
theorem TopF.ext (h : TopF N w fs v E) (hb : Below w.heap.size w w') : TopF N w' fs v E := h.kept hb.size (Kept.below hb)
theorem TopF.rep (h : TopF N w fs v E) : All2 (RepF w) fs E := h.el.mono (fun _ _ hr => hr w (KX.refl _ _ _))
theorem TopF.sl (h : TopF N w fs v E) : Sl w v fs.length E.flatten := Sl.ofOwn h.own
theorem TopF.len (h : TopF N w fs v E) : E.length = fs.length := h.el.length.symm
theorem TopF.six (h : TopF N w fs v E) : ∀ c ∈ E, c.length = 6 := all_len (fun _ _ => RepF.len) h.rep
theorem TopF.one (h : TopF N w fs v E) : ∀ u ∈ E.flatten, u.oneCell' = true := all_one (fun _ _ => RepF.one) h.rep
theorem TopF.fin (h : TopF N w fs v E) (k : Kept N w w') : Sl w' v fs.length E.flatten ∧ All2 (RepF w') fs E :=
  ⟨Rw.fresh_own h.own w' k, h.el.mono (fun _ _ hr => hr w' (fun q h1 h2 _ => k q h1 h2))⟩
theorem TopF.nil (N : Nat) (w : World) : TopF N w [] (.slice none 0 0) [] := ⟨World.ownsRow_nil _ _ _ _, trivial⟩
/-- an element that is new: what lies behind it lies in blocks of its own -/
theorem el_new {M : Nat} {w1 : World} {f : F} {c : List Value} {r : Option Nat} (hc : FreF M w1 f c) (hN : N ≤ M) (hs : w1.heap.size ≤ w'.heap.size) (k : Kept M w1 w') (hr : ∀ q, M ≤ q → q < w1.heap.size → some q ≠ r) : ∀ w'', KX N r w' w'' → RepF w'' f c :=
  fun w'' k' => hc w'' (fun q h1 h2 => (k' q (by omega) (by omega) (hr q h1 h2)).trans (k q h1 h2))
/-- the elements stay, wherever the row is laid -/
theorem TopF.els (h : TopF N w fs v E) (hg : w.grownBy w' v.ownBlock) {r' : Option Nat} (hr : r' = v.ownBlock ∨ r' = some w.heap.size) : All2 (fun f c => ∀ w'', KX N r' w' w'' → RepF w'' f c) fs E :=
  h.el.mono (fun _ _ hf w'' k => hf w'' (KX.back hg hr k))
end
/-- what a copy answers: its fields are a row of the call's own -/
def CopyTop : V → World → Ending → World → Prop
  | .mk k n s is fs, w, e, w' => ∃ (vi vf : Value) (E : List (List Value)), e = .returned (.agg #[.int .i64 k, .int .i64 n, .string s, vi, vf]) ∧ (i64ok k ∧ i64ok n ∧ s.size ≤ maxLen) ∧
    Fresh w.heap.size (fun w => ∃ EI, Sl w vi is.length EI.flatten ∧ All2 (RepV w) is EI) w' ∧ TopF w.heap.size w' fs vf E ∧ Below w.heap.size w w'
theorem rep_mk {w : World} {k n : Int} {s : ByteArray} {is : List V} {fs : List F} {vi vf : Value} {EI E : List (List Value)} (h : i64ok k ∧ i64ok n ∧ s.size ≤ maxLen) (h1 : Sl w vi is.length EI.flatten) (h2 : All2 (RepV w) is EI) (h3 : Sl w vf fs.length E.flatten) (h4 : All2 (RepF w) fs E) :
    RepV w (.mk k n s is fs) [.int .i64 k, .int .i64 n, .string s, vi, vf] := by
  obtain ⟨ai, ci, rfl, k1⟩ := id h1
  obtain ⟨af, cf, rfl, k2⟩ := id h3
  exact VC.shut ⟨h1, h2, h3, h4⟩ h.1 h.2.1 h.2.2
theorem CopyTop.copy {x : V} {w w' : World} {e : Ending} (h : CopyTop x w e w') : CopyPost x w e w' := by
  obtain ⟨k, n, s, is, fs⟩ := x
  obtain ⟨vi, vf, E, rfl, h1, h2, h3, h4⟩ := h
  refine ⟨_, rfl, fun w'' hk => ?_, h4⟩
  obtain ⟨EI, a, b⟩ := h2 w'' hk
  obtain ⟨c, d⟩ := h3.fin hk
  exact rep_mk h1 a b c d
end Fd
end Go.Proofs.YtbhcfmdogdaodaaGreatDoor
namespace Go.Proofs.YtbhcfmdogdaodaaGreatDoor
namespace Fd
/-- an object with other fields -/
def setFields (v : V) (fs : List F) : V := match v with
  | .mk k n s is _ => .mk k n s is fs
def base (v : V) : V := if kind v = 5 then v else obj []
mutual
def mergeV (v : V) : V → V
  | .mk k n s is fs => if k ≠ 5 then .mk k n s is fs else setFields (base v) (mergeFs (fields (base v)) fs)
def mergeFs (out : List F) : List F → List F
  | [] => out
  | .mk nm x :: r => mergeFs (if kind x = 0 then dropF nm out else putF nm (mergeV ((lk out nm).getD V0) x) out) r
end
mutual
def patchV : V → V → V
  | .mk k _n _s _is fs, t => if k ≠ 5 ∨ kind t ≠ 5 then t else obj (putAll (putAll [] (patchFs fs (fields t))) ((fields t).filter fun f => (lk fs (nmF f)).isNone))
def patchFs : List F → List F → List F
  | [], _ => []
  | .mk nm x :: r, ts => match lk ts nm with
    | none => .mk nm V0 :: patchFs r ts
    | some y => if cmpV x y ≠ 0 then .mk nm (patchV x y) :: patchFs r ts else patchFs r ts
end
mutual
def noneV : V → Bool
  | .mk _ _ _ is fs => noneL is || noneFs fs
def noneL : List V → Bool
  | [] => false
  | x :: r => noneV x || noneL r
def noneFs : List F → Bool
  | [] => false
  | .mk _ x :: r => decide (kind x = 0) || noneV x || noneFs r
end
/-- what is known of a value that is right -/
theorem ownF_ok {k n : Int} {s : ByteArray} {ni nf : Nat} (h : ownF k n s ni nf = 0) : (0 ≤ k ∧ k ≤ 5) ∧ (n ≠ 0 → k = 1 ∨ k = 2) ∧ (s.size ≠ 0 → k = 3) ∧ (0 < ni → k = 4) ∧ (0 < nf → k = 5) := by
  unfold ownF at h
  by_cases h1 : k < 0 ∨ 5 < k
  · rw [if_pos h1] at h; cases h
  rw [if_neg h1] at h
  by_cases h2 : spareB k n s ni nf = true
  · rw [if_pos h2] at h; cases h
  clear h
  unfold spareB at h2
  simp only [Bool.or_eq_true, Bool.and_eq_true, decide_eq_true_eq, not_or, not_and, Classical.not_not] at h2
  obtain ⟨⟨⟨a1, a2⟩, a3⟩, a4⟩ := h2
  refine ⟨by omega, fun hn => ?_, a2, a3, a4⟩
  by_cases hk : k = 1
  · exact .inl hk
  · exact .inr (a1 ⟨hn, hk⟩)
theorem size_empty {s : ByteArray} (h : s.size = 0) : s = ByteArray.empty := by
  cases s with
  | mk d =>
    have : d = #[] := Array.eq_empty_of_size_eq_zero h
    rw [this]; rfl
theorem chkFs_ok : ∀ {l : List F} {p : Option ByteArray}, chkFs p l = 0 → Srt l ∧ (∀ f ∈ l, chkV (vlF f) = 0) ∧ ∀ q, p = some q → ∀ f ∈ l, cmpS q (nmF f) < 0
  | [], _, _ => ⟨List.Pairwise.nil, (fun _ h => by cases h), fun _ _ _ h => by cases h⟩
  | .mk nm x :: r, p, h => by
    unfold chkFs at h
    by_cases h1 : nameBad nm = true
    · rw [if_pos h1] at h; cases h
    rw [if_neg h1] at h
    by_cases h2 : ordBad p nm = true
    · rw [if_pos h2] at h; cases h
    rw [if_neg h2] at h
    by_cases h3 : chkV x ≠ 0
    · rw [if_pos h3] at h; exact absurd h h3
    rw [if_neg h3] at h
    obtain ⟨i1, i2, i3⟩ := chkFs_ok h
    refine ⟨List.pairwise_cons.2 ⟨i3 nm rfl, i1⟩, fun f hf => ?_, fun q hq f hf => ?_⟩
    · rcases List.mem_cons.1 hf with rfl | hf
      · exact Classical.not_not.1 h3
      · exact i2 f hf
    · subst hq
      have h4 : ¬ cmpS nm q ≤ 0 := by simpa [ordBad] using h2
      have h5 := cmpS_anti q nm
      rcases List.mem_cons.1 hf with rfl | hf
      · show cmpS q nm < 0; omega
      · exact lt_trans (by omega : cmpS q nm < 0) (i3 nm rfl f hf)
theorem chkL_ok : ∀ {l : List V}, chkL l = 0 → ∀ x ∈ l, chkV x = 0
  | [], _, _, h => by cases h
  | y :: r, h, x, hx => by
    unfold chkL at h
    by_cases h1 : chkV y ≠ 0
    · rw [if_pos h1] at h; exact absurd h h1
    rw [if_neg h1] at h
    rcases List.mem_cons.1 hx with rfl | hx
    · exact Classical.not_not.1 h1
    · exact chkL_ok h x hx
theorem chkV_ok {k n : Int} {s : ByteArray} {is : List V} {fs : List F} (h : chkV (.mk k n s is fs) = 0) : ownF k n s is.length fs.length = 0 ∧ (∀ x ∈ is, chkV x = 0) ∧ Srt fs ∧ ∀ f ∈ fs, chkV (vlF f) = 0 := by
  unfold chkV at h
  by_cases h1 : ownF k n s is.length fs.length ≠ 0
  · rw [if_pos h1] at h; exact absurd h h1
  rw [if_neg h1] at h
  by_cases h2 : chkL is ≠ 0
  · rw [if_pos h2] at h; exact absurd h h2
  rw [if_neg h2] at h
  obtain ⟨a, b, _⟩ := chkFs_ok h
  exact ⟨Classical.not_not.1 h1, chkL_ok (Classical.not_not.1 h2), a, b⟩
theorem obj_is {v : V} (h : chkV v = 0) (hk : kind v = 5) : v = obj (fields v) := by
  obtain ⟨k, n, s, is, fs⟩ := v
  obtain ⟨h1, _⟩ := chkV_ok h
  obtain ⟨_, a, b, c, d⟩ := ownF_ok h1
  have hk : k = 5 := hk
  have e1 : n = 0 := Classical.byContradiction fun e => by have := a e; omega
  have e2 : s.size = 0 := Classical.byContradiction fun e => by have := b e; omega
  have e3 : is.length = 0 := Classical.byContradiction fun e => by have := c (by omega); omega
  rw [hk, e1, size_empty e2, List.length_eq_zero_iff.1 e3]; rfl
theorem fields_ok {v : V} (h : chkV v = 0) : Srt (fields v) ∧ ∀ f ∈ fields v, chkV (vlF f) = 0 := by
  obtain ⟨k, n, s, is, fs⟩ := v
  exact (chkV_ok h).2.2
/- right values that compare as equal are equal -/
mutual
theorem eq_of_cmp : ∀ {x y : V}, chkV x = 0 → chkV y = 0 → cmpV x y = 0 → x = y
  | .mk k n s is fs, .mk k' n' s' is' fs', hx, hy, h => by
    obtain ⟨a1, a2, a3, a4⟩ := chkV_ok hx
    obtain ⟨b1, b2, b3, b4⟩ := chkV_ok hy
    obtain ⟨c0, c1, c2, c3, c4⟩ := ownF_ok a1
    obtain ⟨d0, d1, d2, d3, d4⟩ := ownF_ok b1
    simp only [cmpV] at h
    by_cases hk : k = k'
    · subst hk
      rw [if_neg (by simp)] at h
      have hn : n = n' := by
        by_cases h12 : k = 1 ∨ k = 2
        · rw [if_pos h12] at h; exact cmpI_zero h
        · have e1 : n = 0 := Classical.byContradiction fun e => h12 (c1 e)
          have e2 : n' = 0 := Classical.byContradiction fun e => h12 (d1 e)
          rw [e1, e2]
      have hs : s = s' := by
        by_cases h3 : k = 3
        · rw [if_neg (by omega), if_pos h3] at h; exact cmpS_zero h
        · have e1 : s.size = 0 := Classical.byContradiction fun e => h3 (c2 e)
          have e2 : s'.size = 0 := Classical.byContradiction fun e => h3 (d2 e)
          rw [size_empty e1, size_empty e2]
      have hi : is = is' := by
        by_cases h4 : k = 4
        · rw [if_neg (by omega), if_neg (by omega), if_pos h4] at h; exact eq_of_cmpL a2 b2 h
        · have e1 : is.length = 0 := Classical.byContradiction fun e => h4 (c3 (by omega))
          have e2 : is'.length = 0 := Classical.byContradiction fun e => h4 (d3 (by omega))
          rw [List.length_eq_zero_iff.1 e1, List.length_eq_zero_iff.1 e2]
      have hf : fs = fs' := by
        by_cases h5 : k = 5
        · rw [if_neg (by omega), if_neg (by omega), if_neg (by omega), if_pos h5] at h; exact eq_of_cmpFs a4 b4 h
        · have e1 : fs.length = 0 := Classical.byContradiction fun e => h5 (c4 (by omega))
          have e2 : fs'.length = 0 := Classical.byContradiction fun e => h5 (d4 (by omega))
          rw [List.length_eq_zero_iff.1 e1, List.length_eq_zero_iff.1 e2]
      rw [hn, hs, hi, hf]
    · rw [if_pos hk] at h
      exact absurd (cmpI_zero h) hk
theorem eq_of_cmpL : ∀ {x y : List V}, (∀ v ∈ x, chkV v = 0) → (∀ v ∈ y, chkV v = 0) → cmpL x y = 0 → x = y
  | [], [], _, _, _ => rfl
  | [], _ :: _, _, _, h => by simp [cmpL] at h
  | _ :: _, [], _, _, h => by simp [cmpL] at h
  | x :: xs, y :: ys, hx, hy, h => by
    simp only [cmpL] at h
    unfold orI at h
    by_cases h0 : cmpV x y = 0
    · rw [h0] at h
      have h1 : cmpL xs ys = 0 := by simpa using h
      rw [eq_of_cmp (hx x (by simp)) (hy y (by simp)) h0, eq_of_cmpL (fun v hv => hx v (by simp [hv])) (fun v hv => hy v (by simp [hv])) h1]
    · simp [h0] at h
theorem eq_of_cmpF : ∀ {x y : F}, chkV (vlF x) = 0 → chkV (vlF y) = 0 → cmpF x y = 0 → x = y
  | .mk a x, .mk b y, hx, hy, h => by
    simp only [cmpF] at h
    unfold orI at h
    by_cases h0 : cmpS a b = 0
    · rw [h0] at h
      have h1 : cmpV x y = 0 := by simpa using h
      rw [cmpS_zero h0, eq_of_cmp (x := x) (y := y) hx hy h1]
    · simp [h0] at h
theorem eq_of_cmpFs : ∀ {x y : List F}, (∀ f ∈ x, chkV (vlF f) = 0) → (∀ f ∈ y, chkV (vlF f) = 0) → cmpFs x y = 0 → x = y
  | [], [], _, _, _ => rfl
  | [], _ :: _, _, _, h => by simp [cmpFs] at h
  | _ :: _, [], _, _, h => by simp [cmpFs] at h
  | x :: xs, y :: ys, hx, hy, h => by
    simp only [cmpFs] at h
    unfold orI at h
    by_cases h0 : cmpF x y = 0
    · rw [h0] at h
      have h1 : cmpFs xs ys = 0 := by simpa using h
      rw [eq_of_cmpF (hx x (by simp)) (hy y (by simp)) h0, eq_of_cmpFs (fun v hv => hx v (by simp [hv])) (fun v hv => hy v (by simp [hv])) h1]
    · simp [h0] at h
end
/-- what reads under a name behind a patch -/
theorem srt_mergeFs : ∀ {us out : List F}, Srt out → Srt (mergeFs out us)
  | [], out, h => by unfold mergeFs; exact h
  | .mk nm x :: r, out, h => by
    unfold mergeFs
    refine srt_mergeFs ?_
    split
    · exact srt_drop h nm
    · exact srt_put h _ _
theorem lk_mergeFs : ∀ {us out : List F} {m : ByteArray}, Srt out → (us.Pairwise fun a b => nmF a ≠ nmF b) → lk (mergeFs out us) m = match lk us m with | some x => (if kind x = 0 then none else some (mergeV ((lk out m).getD V0) x)) | none => lk out m
  | [], out, m, _, _ => by unfold mergeFs; rfl
  | .mk nm x :: r, out, m, h, hp => by
    obtain ⟨h1, h2⟩ := List.pairwise_cons.1 hp
    unfold mergeFs
    rw [lk_mergeFs (by split; exact srt_drop h nm; exact srt_put h _ _) h2]
    by_cases e : nm = m
    · subst e
      rw [lk_none (l := r) (m := nm) (fun q hq => (h1 q hq).symm)]
      simp only [lk]
      rw [if_pos (show nmF (.mk nm x) = nm from rfl)]
      simp only [vlF]
      by_cases hk : kind x = 0
      · simp [hk, lk_drop]
      · simp [hk, lk_put h]
    · have e1 : lk (if kind x = 0 then dropF nm out else putF nm (mergeV ((lk out nm).getD V0) x) out) m = lk out m := by
        split
        · rw [lk_drop, if_neg e]
        · rw [lk_put h, if_neg e]
      rw [e1]
      simp only [lk]
      rw [if_neg (show ¬ nmF (.mk nm x) = m from e)]
theorem srt_ne {l : List F} (h : Srt l) : l.Pairwise fun a b => nmF a ≠ nmF b := h.imp lt_ne
theorem noneFs_mem : ∀ {l : List F}, noneFs l = false → ∀ f ∈ l, kind (vlF f) ≠ 0 ∧ noneV (vlF f) = false
  | [], _, _, h => by cases h
  | .mk nm x :: r, h, f, hf => by
    unfold noneFs at h
    simp only [Bool.or_eq_false_iff, decide_eq_false_iff_not] at h
    rcases List.mem_cons.1 hf with rfl | hf
    · exact ⟨h.1.1, h.1.2⟩
    · exact noneFs_mem h.2 f hf
theorem none_fields {v : V} (h : noneV v = false) : noneFs (fields v) = false := by
  obtain ⟨k, n, s, is, fs⟩ := v
  unfold noneV at h
  simp only [Bool.or_eq_false_iff] at h
  exact h.2
/- a value laid onto nothing -/
mutual
theorem merge_none : ∀ {t v : V}, chkV t = 0 → noneV t = false → kind v = 0 → mergeV v t = t
  | .mk k n s is fs, v, ht, hn, hv => by
    unfold mergeV
    by_cases hk : k ≠ 5
    · rw [if_pos hk]
    · rw [if_neg hk]
      have hk5 : k = 5 := Classical.not_not.1 hk
      have e1 := obj_is ht hk5
      have hb : base v = obj [] := by unfold base; rw [if_neg (by omega)]
      rw [hb]
      have h1 := fields_ok ht
      have h2 := none_fields hn
      have h3 : mergeFs (fields (obj [])) fs = fs := merge_noneFs (out := []) h1.1 h1.2 h2 (fun _ _ f hf => by cases hf)
      rw [h3]
      exact e1.symm
theorem merge_noneFs : ∀ {us out : List F}, Srt us → (∀ f ∈ us, chkV (vlF f) = 0) → noneFs us = false → (∀ f ∈ us, ∀ g ∈ out, cmpS (nmF g) (nmF f) < 0) → mergeFs out us = out ++ us
  | [], out, _, _, _, _ => by unfold mergeFs; simp
  | .mk nm x :: r, out, hs, hc, hn, ho => by
    obtain ⟨h1, h2⟩ := List.pairwise_cons.1 hs
    obtain ⟨k1, k2⟩ := noneFs_mem hn (.mk nm x) (by simp)
    unfold mergeFs
    rw [if_neg (show ¬ kind x = 0 from k1)]
    have e1 : lk out nm = none := lk_none (fun g hg => lt_ne (ho (.mk nm x) (by simp) g hg))
    rw [e1]
    have e2 : mergeV ((none : Option V).getD V0) x = x := merge_none (hc (.mk nm x) (by simp)) k2 rfl
    rw [e2]
    have e3 : putF nm x out = out ++ [.mk nm x] := by
      have hlt : ∀ g ∈ out, cmpS (nmF g) nm < 0 := fun g hg => ho (.mk nm x) (by simp) g hg
      clear ho e1
      induction out with
      | nil => rfl
      | cons g q ih =>
        have h5 := hlt g (by simp)
        have h6 := cmpS_anti (nmF g) nm
        unfold putF
        rw [if_neg (by omega), if_neg (lt_ne h5).symm, ih (fun g hg => hlt g (by simp [hg]))]
        rfl
    rw [e3]
    have hn2 : noneFs r = false := by
      unfold noneFs at hn
      simp only [Bool.or_eq_false_iff] at hn
      exact hn.2
    rw [merge_noneFs h2 (fun f hf => hc f (by simp [hf])) hn2 (fun f hf g hg => by
      rcases List.mem_append.1 hg with hg | hg
      · exact ho f (by simp [hf]) g hg
      · rw [List.mem_singleton.1 hg]; exact h1 f hf)]
    simp
end
/-- the entries of a patch -/
def ents (fs ts : List F) : List F := patchFs fs ts ++ ts.filter fun f => (lk fs (nmF f)).isNone
theorem putAll_append (out us vs : List F) : putAll out (us ++ vs) = putAll (putAll out us) vs := by unfold putAll; rw [List.foldl_append]
theorem patchV_obj {k n : Int} {s : ByteArray} {is : List V} {fs : List F} {t : V} (hk : k = 5) (ht : kind t = 5) : patchV (.mk k n s is fs) t = obj (putAll [] (ents fs (fields t))) := by
  unfold patchV
  rw [if_neg (by omega)]
  unfold ents
  rw [putAll_append]
theorem patchFs_mem : ∀ {fs ts : List F} {f : F}, f ∈ patchFs fs ts → ∃ g ∈ fs, nmF g = nmF f
  | [], _, _, h => by unfold patchFs at h; cases h
  | .mk nm x :: r, ts, f, h => by
    unfold patchFs at h
    split at h
    · rcases List.mem_cons.1 h with rfl | h
      · exact ⟨.mk nm x, by simp, rfl⟩
      · obtain ⟨g, h1, h2⟩ := patchFs_mem h
        exact ⟨g, by simp [h1], h2⟩
    · split at h
      · rcases List.mem_cons.1 h with rfl | h
        · exact ⟨.mk nm x, by simp, rfl⟩
        · obtain ⟨g, h1, h2⟩ := patchFs_mem h
          exact ⟨g, by simp [h1], h2⟩
      · obtain ⟨g, h1, h2⟩ := patchFs_mem h
        exact ⟨g, by simp [h1], h2⟩
theorem srt_patchFs : ∀ {fs ts : List F}, Srt fs → Srt (patchFs fs ts)
  | [], _, _ => by unfold patchFs; exact List.Pairwise.nil
  | .mk nm x :: r, ts, h => by
    obtain ⟨h1, h2⟩ := List.pairwise_cons.1 h
    have h3 : ∀ f ∈ patchFs r ts, cmpS nm (nmF f) < 0 := fun f hf => by
      obtain ⟨g, hg, e⟩ := patchFs_mem hf
      rw [← e]; exact h1 g hg
    unfold patchFs
    split
    · exact List.pairwise_cons.2 ⟨h3, srt_patchFs h2⟩
    · split
      · exact List.pairwise_cons.2 ⟨h3, srt_patchFs h2⟩
      · exact srt_patchFs h2
theorem ents_ne {fs ts : List F} (hf : Srt fs) (ht : Srt ts) : (ents fs ts).Pairwise fun a b => nmF a ≠ nmF b := by
  refine List.pairwise_append.2 ⟨srt_ne (srt_patchFs hf), srt_ne (ht.filter _), fun a ha b hb => ?_⟩
  obtain ⟨g, hg, e⟩ := patchFs_mem ha
  obtain ⟨_, hb2⟩ := List.mem_filter.1 hb
  intro e2
  obtain ⟨x, hx⟩ := lk_isSome.1 ⟨g, hg, e.trans e2⟩
  rw [hx] at hb2
  cases hb2
theorem lk_append (a b : List F) (m : ByteArray) : lk (a ++ b) m = match lk a m with | some x => some x | none => lk b m := by
  induction a with
  | nil => rfl
  | cons f r ih =>
    rw [List.cons_append, lk, lk]
    split
    · rfl
    · exact ih
theorem lk_patchFs : ∀ {fs ts : List F} {m : ByteArray}, Srt fs → lk (patchFs fs ts) m = match lk fs m with | none => none | some x => match lk ts m with | none => some V0 | some y => if cmpV x y ≠ 0 then some (patchV x y) else none
  | [], ts, m, _ => by unfold patchFs; rfl
  | .mk nm x :: r, ts, m, h => by
    obtain ⟨h1, h2⟩ := List.pairwise_cons.1 h
    have h3 : lk (patchFs r ts) nm = none := lk_none (fun f hf => by
      obtain ⟨g, hg, e⟩ := patchFs_mem hf
      rw [← e]; exact (lt_ne (h1 g hg)).symm)
    have ih := lk_patchFs (ts := ts) (m := m) h2
    unfold patchFs
    by_cases e : nm = m
    · subst e
      have e1 : lk (.mk nm x :: r) nm = some x := by rw [lk]; exact if_pos rfl
      rw [e1]
      cases ht : lk ts nm with
      | none => simp only; rw [lk]; exact if_pos rfl
      | some y =>
        simp only
        by_cases hc : cmpV x y ≠ 0
        · rw [if_pos hc, if_pos hc, lk]; exact if_pos rfl
        · rw [if_neg hc, if_neg hc]; exact h3
    · have e1 : lk (.mk nm x :: r) m = lk r m := by rw [lk]; exact if_neg e
      rw [e1, ← ih]
      cases ht : lk ts nm with
      | none => simp only; rw [lk]; exact if_neg e
      | some y =>
        simp only
        split
        · rw [lk]; exact if_neg e
        · rfl
theorem lk_ents {fs ts : List F} {m : ByteArray} (hf : Srt fs) : lk (ents fs ts) m = match lk fs m with | none => lk ts m | some x => match lk ts m with | none => some V0 | some y => if cmpV x y ≠ 0 then some (patchV x y) else none := by
  unfold ents
  have hfil : lk (ts.filter fun f => (lk fs (nmF f)).isNone) m = match lk fs m with | none => lk ts m | some _ => none := by
    cases h : lk fs m with
    | none =>
      simp only
      induction ts with
      | nil => rfl
      | cons f r ih =>
        rw [List.filter_cons]
        by_cases e : nmF f = m
        · rw [if_pos (by rw [e, h]; rfl), lk, lk, if_pos e, if_pos e]
        · split
          · rw [lk, lk, if_neg e, if_neg e]; exact ih
          · rw [lk, if_neg e]; exact ih
    | some x =>
      simp only
      refine lk_none (fun f hf e => ?_)
      obtain ⟨_, h2⟩ := List.mem_filter.1 hf
      rw [e, h] at h2
      cases h2
  rw [lk_append, lk_patchFs hf, hfil]
  cases h1 : lk fs m with
  | none => rfl
  | some x =>
    cases h2 : lk ts m with
    | none => rfl
    | some y =>
      by_cases hc : cmpV x y ≠ 0
      · simp only [if_pos hc]
      · simp only [if_neg hc]
theorem kind_patch {x y : V} : kind (patchV x y) = kind y := by
  obtain ⟨k, n, s, is, fs⟩ := x
  unfold patchV
  by_cases h : k ≠ 5 ∨ kind y ≠ 5
  · rw [if_pos h]
  · rw [if_neg h]
    have : kind y = 5 := Classical.byContradiction fun e => h (.inr e)
    rw [this]; rfl
theorem merge_obj (v : V) (fs : List F) : mergeV v (obj fs) = setFields (base v) (mergeFs (fields (base v)) fs) := by
  simp [obj, mergeV]
theorem merge_other (v : V) {p : V} (h : kind p ≠ 5) : mergeV v p = p := by
  obtain ⟨k, n, s, is, fs⟩ := p
  have h : k ≠ 5 := h
  simp [mergeV, h]
theorem base_obj {k n : Int} {s : ByteArray} {is : List V} {fs : List F} (h : k = 5) : base (.mk k n s is fs) = .mk k n s is fs := by
  unfold base; exact if_pos h
theorem base_other {k n : Int} {s : ByteArray} {is : List V} {fs : List F} (h : k ≠ 5) : base (.mk k n s is fs) = obj [] := by
  unfold base; exact if_neg h
/- THE LAW: a value with its patch to another one is that other one -/
mutual
theorem mend : ∀ {x y : V}, chkV x = 0 → chkV y = 0 → noneV y = false → mergeV x (patchV x y) = y
  | .mk k n s is fs, y, hx, hy, hn => by
    by_cases h : k ≠ 5 ∨ kind y ≠ 5
    · have e1 : patchV (.mk k n s is fs) y = y := by unfold patchV; rw [if_pos h]
      rw [e1]
      by_cases hk : kind y = 5
      · have hk5 : k ≠ 5 := h.resolve_right (fun e => e hk)
        have e2 := obj_is hy hk
        have h1 := fields_ok hy
        have h3 := merge_noneFs (out := []) h1.1 h1.2 (none_fields hn) (fun _ _ f hf => by cases hf)
        conv => lhs; rw [e2]
        rw [merge_obj, base_other hk5, show mergeFs (fields (obj [])) (fields y) = fields y from h3]
        exact e2.symm
      · exact merge_other _ hk
    · have hk : k = 5 := Classical.byContradiction fun e => h (.inl e)
      have hky : kind y = 5 := Classical.byContradiction fun e => h (.inr e)
      rw [patchV_obj hk hky]
      have hxo := obj_is hx hk
      have hyo := obj_is hy hky
      have hxf : Srt fs ∧ ∀ f ∈ fs, chkV (vlF f) = 0 := fields_ok hx
      have hyf := fields_ok hy
      have hnf := none_fields hn
      have hsU : Srt (putAll [] (ents fs (fields y))) := srt_putAll List.Pairwise.nil
      have hmF := mend_fields fs hxf.2
      have hbase : base (.mk k n s is fs) = obj fs := (base_obj hk).trans hxo
      rw [merge_obj, hbase]
      show obj (mergeFs fs (putAll [] (ents fs (fields y)))) = y
      have hres : mergeFs fs (putAll [] (ents fs (fields y))) = fields y := by
        refine srt_ext (srt_mergeFs hxf.1) hyf.1 (fun m => ?_)
        rw [lk_mergeFs hxf.1 (srt_ne hsU), lk_putAll List.Pairwise.nil (ents_ne hxf.1 hyf.1), lk_ents hxf.1]
        cases h1 : lk fs m with
        | none =>
          cases h2 : lk (fields y) m with
          | none => simp [lk]
          | some t =>
            have hm2 := lk_mem h2
            obtain ⟨q1, q2⟩ := noneFs_mem hnf _ hm2
            simp only
            rw [if_neg (show ¬ kind t = 0 from q1)]
            congr 1
            exact merge_none (hyf.2 _ hm2) q2 rfl
        | some x =>
          have hm1 := lk_mem h1
          cases h2 : lk (fields y) m with
          | none => simp [V0, kind]
          | some t =>
            have hm2 := lk_mem h2
            obtain ⟨q1, q2⟩ := noneFs_mem hnf _ hm2
            simp only
            by_cases hc : cmpV x t ≠ 0
            · rw [if_pos hc]
              simp only
              rw [if_neg (by rw [kind_patch]; exact q1)]
              congr 1
              exact hmF (.mk m x) hm1 t (hyf.2 _ hm2) q2
            · rw [if_neg hc]
              simp only [lk]
              rw [eq_of_cmp (x := x) (y := t) (hxf.2 _ hm1) (hyf.2 _ hm2) (Classical.not_not.1 hc)]
      rw [hres]
      exact hyo.symm
theorem mend_fields : ∀ (fs : List F), (∀ f ∈ fs, chkV (vlF f) = 0) → ∀ f ∈ fs, ∀ y, chkV y = 0 → noneV y = false → mergeV (vlF f) (patchV (vlF f) y) = y
  | [], _, _, h, _, _, _ => by cases h
  | .mk a x :: r, hc, f, hf, y, hy, hn => by
    rcases List.mem_cons.1 hf with rfl | hf
    · exact mend (x := x) (hc (.mk a x) (by simp)) hy hn
    · exact mend_fields r (fun g hg => hc g (by simp [hg])) f hf y hy hn
end
end Fd
end Go.Proofs.YtbhcfmdogdaodaaGreatDoor
namespace Go.Proofs.YtbhcfmdogdaodaaGreatDoor
namespace Fd
/-- i fields have names ahead of nm; b: the next one has that name -/
structure FindAt (l : List F) (nm : ByteArray) (i : Nat) (b : Bool) : Prop where
  le : i ≤ l.length
  lo : ∀ t f, t < i → l[t]? = some f → cmpS (nmF f) nm < 0
  hi : ∀ t f, i ≤ t → l[t]? = some f → ¬ cmpS (nmF f) nm < 0
  is : b = true ↔ ∃ f, l[i]? = some f ∧ nmF f = nm
theorem lk_skip {l r : List F} {nm : ByteArray} (h : ∀ f ∈ l, nmF f ≠ nm) : lk (l ++ r) nm = lk r nm := by
  induction l with
  | nil => rfl
  | cons f l ih =>
    rw [List.cons_append, lk, if_neg (h f (by simp))]
    exact ih (fun g hg => h g (by simp [hg]))
theorem put_skip {l r : List F} {nm : ByteArray} {x : V} (h : ∀ f ∈ l, cmpS (nmF f) nm < 0) : putF nm x (l ++ r) = l ++ putF nm x r := by
  induction l with
  | nil => rfl
  | cons f l ih =>
    have h1 := h f (by simp)
    have h2 := cmpS_anti (nmF f) nm
    rw [List.cons_append, putF, if_neg (by omega), if_neg (fun e => by rw [e, cmpS_self] at h1; omega), ih (fun g hg => h g (by simp [hg]))]
    rfl
theorem drop_none {l : List F} {nm : ByteArray} (h : ∀ f ∈ l, nmF f ≠ nm) : dropF nm l = l := by
  unfold dropF
  exact List.filter_eq_self.2 (fun f hf => by simp [h f hf])
section
variable {l : List F} {nm : ByteArray} {i : Nat}
theorem FindAt.pre {b : Bool} (h : FindAt l nm i b) : ∀ f ∈ l.take i, cmpS (nmF f) nm < 0 := by
  intro f hf
  obtain ⟨t, ht, rfl⟩ := List.getElem_of_mem hf
  rw [List.length_take] at ht
  rw [List.getElem_take]
  exact h.lo t _ (by omega) (List.getElem?_eq_getElem (by omega))
theorem FindAt.yes (h : FindAt l nm i true) : ∃ f, l[i]? = some f ∧ nmF f = nm ∧ l = l.take i ++ f :: l.drop (i + 1) := by
  obtain ⟨f, h1, h2⟩ := h.is.1 rfl
  obtain ⟨hi, e⟩ := List.getElem?_eq_some_iff.1 h1
  refine ⟨f, h1, h2, ?_⟩
  rw [← e, ← List.drop_eq_getElem_cons hi, List.take_append_drop]
theorem FindAt.ge {b : Bool} (h : FindAt l nm i b) (hs : Srt l) : ∀ f ∈ l.drop (i + 1), cmpS nm (nmF f) < 0 := by
  intro f hf
  obtain ⟨t, ht, rfl⟩ := List.getElem_of_mem hf
  rw [List.length_drop] at ht
  rw [List.getElem_drop]
  have h1 := h.hi i l[i] (Nat.le_refl _) (List.getElem?_eq_getElem (by omega))
  have h2 : cmpS (nmF l[i]) (nmF l[i + 1 + t]) < 0 := List.pairwise_iff_getElem.1 hs i (i + 1 + t) (by omega) (by omega) (by omega)
  have h3 := cmpS_anti (nmF l[i]) nm
  have h4 := cmpS_trans (a := nm) (b := nmF l[i]) (c := nmF l[i + 1 + t]) (by omega) (by omega)
  by_cases h5 : cmpS nm (nmF l[i + 1 + t]) = 0
  · have e := cmpS_zero h5
    rw [← e] at h2
    omega
  · omega
theorem FindAt.post (h : FindAt l nm i false) (hs : Srt l) : ∀ f ∈ l.drop i, cmpS nm (nmF f) < 0 := by
  intro f hf
  by_cases hi : i < l.length
  · rw [List.drop_eq_getElem_cons hi] at hf
    rcases List.mem_cons.1 hf with rfl | hf
    · have h1 := h.hi i l[i] (Nat.le_refl _) (List.getElem?_eq_getElem hi)
      have h2 := cmpS_anti (nmF l[i]) nm
      by_cases h5 : cmpS nm (nmF l[i]) = 0
      · have := h.is.2 ⟨_, List.getElem?_eq_getElem hi, (cmpS_zero h5).symm⟩
        cases this
      · omega
    · exact h.ge hs f hf
  · rw [List.drop_eq_nil_of_le (by omega)] at hf; cases hf
theorem ne_lt {a b : ByteArray} (h : cmpS a b < 0) : b ≠ a := fun e => by rw [e, cmpS_self] at h; omega
/-- what the place means: a field of that name is there -/
theorem FindAt.there (h : FindAt l nm i true) (hs : Srt l) : ∃ x, l[i]? = some (.mk nm x) ∧ lk l nm = some x ∧ dropF nm l = l.take i ++ l.drop (i + 1) ∧ ∀ y, putF nm y l = l.set i (.mk nm y) := by
  obtain ⟨f, h1, h2, h3⟩ := h.yes
  obtain ⟨a, x⟩ := f
  obtain rfl : a = nm := h2
  have hp := h.pre
  have hq := h.ge hs
  obtain ⟨hi, _⟩ := List.getElem?_eq_some_iff.1 h1
  refine ⟨x, h1, ?_, ?_, fun y => ?_⟩
  · rw [h3, lk_skip (fun f hf => lt_ne (hp f hf)), lk, if_pos (show nmF (F.mk a x) = a from rfl)]; rfl
  · conv => lhs; rw [h3]
    unfold dropF
    rw [List.filter_append, List.filter_eq_self.2 (fun f hf => by simp [lt_ne (hp f hf)]), List.filter_cons_of_neg (by simp [nmF]), List.filter_eq_self.2 (fun f hf => by simp [ne_lt (hq f hf)])]
  · conv => lhs; rw [h3]
    rw [put_skip hp, putF, if_neg (by show ¬ cmpS a a < 0; rw [cmpS_self]; omega), if_pos (show a = nmF (F.mk a x) from rfl), List.set_eq_take_append_cons_drop, if_pos hi]
/-- no field of that name is there -/
theorem FindAt.gone (h : FindAt l nm i false) (hs : Srt l) : lk l nm = none ∧ dropF nm l = l ∧ ∀ y, putF nm y l = l.take i ++ .mk nm y :: l.drop i := by
  have hp := h.pre
  have hq := h.post hs
  have hall : ∀ f ∈ l, nmF f ≠ nm := fun f hf => by
    rw [← List.take_append_drop i l] at hf
    rcases List.mem_append.1 hf with hf | hf
    · exact lt_ne (hp f hf)
    · exact ne_lt (hq f hf)
  refine ⟨lk_none hall, drop_none hall, fun y => ?_⟩
  conv => lhs; rw [← List.take_append_drop i l]
  rw [put_skip hp]
  congr 1
  cases hd : l.drop i with
  | nil => rfl
  | cons g r => rw [putF, if_pos (hq g (by rw [hd]; simp))]
end
end Fd
end Go.Proofs.YtbhcfmdogdaodaaGreatDoor
