/- What a value hangs on: it reads as long as the cells of certain blocks stay. No program stands in it but the types' numbers. -/
import Derived.Test.YtkjgifhklajifaaPm02
namespace Go.Proofs.Ytkjgifhklajifaa
open Go.RowKit
namespace Fd
open _root_.Go.Proofs.Ytkjgifhklajifaa.Rw (All2 All2.length All2.get All2.mono sl_blocks fl_at)
mutual
theorem RepV.blocks {w w' : World} (hb : ∀ q, q < w.heap.size → w'.heap[q]? = w.heap[q]?) : ∀ {x : V} {cs : List Value}, RepV w x cs → RepV w' x cs
  | .mk k n s is fs, cs, h => by
    simp only [RepV] at h ⊢
    obtain ⟨vi, vf, ics, fcs, h0, h1, h2, h3, h4, h5, h6, h7⟩ := h
    exact ⟨vi, vf, ics, fcs, h0, h1, h2, h3, sl_blocks h4 hb, RepL.blocks hb h5, sl_blocks h6 hb, RepFs.blocks hb h7⟩
theorem RepL.blocks {w w' : World} (hb : ∀ q, q < w.heap.size → w'.heap[q]? = w.heap[q]?) : ∀ {x : List V} {cs : List Value}, RepL w x cs → RepL w' x cs
  | [], cs, h => by simpa only [RepL] using h
  | x :: xs, cs, h => by
    simp only [RepL] at h ⊢
    obtain ⟨c, r, h0, h1, h2⟩ := h
    exact ⟨c, r, h0, RepV.blocks hb h1, RepL.blocks hb h2⟩
theorem RepF.blocks {w w' : World} (hb : ∀ q, q < w.heap.size → w'.heap[q]? = w.heap[q]?) : ∀ {x : F} {cs : List Value}, RepF w x cs → RepF w' x cs
  | .mk a x, cs, h => by
    simp only [RepF] at h ⊢
    obtain ⟨c, h0, h1, h2⟩ := h
    exact ⟨c, h0, h1, RepV.blocks hb h2⟩
theorem RepFs.blocks {w w' : World} (hb : ∀ q, q < w.heap.size → w'.heap[q]? = w.heap[q]?) : ∀ {x : List F} {cs : List Value}, RepFs w x cs → RepFs w' x cs
  | [], cs, h => by simpa only [RepFs] using h
  | x :: xs, cs, h => by
    simp only [RepFs] at h ⊢
    obtain ⟨c, r, h0, h1, h2⟩ := h
    exact ⟨c, r, h0, RepF.blocks hb h1, RepFs.blocks hb h2⟩
end
/-- it holds as long as the blocks that D names stay -/
def On (D : Nat → Prop) (P : World → Prop) (w : World) : Prop := ∀ Z, (∀ q, q < w.heap.size → D q → Z.heap[q]? = w.heap[q]?) → P Z
section
variable {D D' : Nat → Prop} {P : World → Prop} {w w' : World}
theorem On.now (h : On D P w) : P w := h w (fun _ _ _ => rfl)
theorem On.mono (h : On D P w) (hD : ∀ q, q < w.heap.size → D q → D' q) : On D' P w := fun Z hZ => h Z (fun q h1 h2 => hZ q h1 (hD q h1 h2))
theorem On.keep (h : On D P w) (hs : w.heap.size ≤ w'.heap.size) (hk : ∀ q, q < w.heap.size → D q → w'.heap[q]? = w.heap[q]?) : On D P w' := fun Z hZ => h Z (fun q h1 h2 => (hZ q (by omega) h2).trans (hk q h1 h2))
theorem On.below (h : On D P w) (hb : Below w.heap.size w w') : On D P w' := h.keep hb.size (fun q h1 _ => hb.block q h1)
theorem On.map {P' : World → Prop} (h : On D P w) (f : ∀ Z, P Z → P' Z) : On D P' w := fun Z hZ => f Z (h Z hZ)
end
theorem RepV.on {w : World} {x : V} {c : List Value} (h : RepV w x c) : On (fun _ => True) (fun Z => RepV Z x c) w := fun _ hZ => RepV.blocks (fun q hq => hZ q hq trivial) h
/-- a slice that hangs on certain blocks lies in one of them -/
theorem on_block {D : Nat → Prop} {w : World} {b o n q : Nat} (_hn : 0 < n) (h : On D (fun Z => ∃ cs, cs ≠ [] ∧ Sl Z (.slice (some ⟨b, o, none⟩) n q) n cs) w) : D b := by
  refine Classical.byContradiction fun hD => ?_
  obtain ⟨cs, hcs, a, _, e, _, _, _, h3⟩ := h { w with heap := w.heap.setIfInBounds b (.cells #[] 0) } (fun q hq h1 => by
    show (w.heap.setIfInBounds b _)[q]? = _
    rw [Array.getElem?_setIfInBounds]
    by_cases e : b = q
    · subst e; exact absurd h1 hD
    · rw [if_neg e])
  cases e
  cases cs with
  | nil => exact hcs rfl
  | cons u r =>
    obtain ⟨b', o', e, hc⟩ := h3 0 u rfl
    cases e
    have hlt := World.block_lt_of_cell? _ _ hc
    simp only [World.cell?] at hc
    rw [Array.getElem?_setIfInBounds_self_of_lt (by simpa using hlt)] at hc
    simp at hc
theorem sl_same {w Z : World} {b o n q : Nat} {cs ds : List Value} (h1 : Sl w (.slice (some ⟨b, o, none⟩) n q) n cs) (h2 : Sl Z (.slice (some ⟨b, o, none⟩) n q) n ds) (hl : cs.length = ds.length) (hb : Z.heap[b]? = w.heap[b]?) : cs = ds := by
  obtain ⟨_, _, e1, _, _, _, k1⟩ := h1
  obtain ⟨_, _, e2, _, _, _, k2⟩ := h2
  cases e1; cases e2
  refine List.ext_getElem hl fun i hi hi' => ?_
  obtain ⟨_, _, e, c1⟩ := k1 i _ (List.getElem?_eq_getElem hi)
  cases e
  obtain ⟨_, _, e, c2⟩ := k2 i _ (List.getElem?_eq_getElem hi')
  cases e
  rw [World.cell?_of_block (w := w) (a := ⟨b, o + i, none⟩) hb, c1] at c2
  exact Option.some.inj c2
theorem flat_inj {k : Nat} (h0 : 0 < k) : ∀ {E E' : List (List Value)}, (∀ c ∈ E, c.length = k) → (∀ c ∈ E', c.length = k) → E.flatten = E'.flatten → E = E'
  | [], [], _, _, _ => rfl
  | [], c :: r, _, h, e => by
    have := h c (by simp)
    have e2 := congrArg List.length e
    rw [List.flatten_cons, List.length_append, List.flatten_nil, List.length_nil] at e2; omega
  | c :: r, [], h, _, e => by
    have := h c (by simp)
    have e2 := congrArg List.length e
    rw [List.flatten_cons, List.length_append, List.flatten_nil, List.length_nil] at e2; omega
  | c :: r, c' :: r', h, h', e => by
    rw [List.flatten_cons, List.flatten_cons] at e
    obtain ⟨e1, e2⟩ := List.append_inj e (by rw [h c (by simp), h' c' (by simp)])
    rw [e1, flat_inj h0 (fun x hx => h x (by simp [hx])) (fun x hx => h' x (by simp [hx])) e2]
/-- the cells of a value that hangs on certain blocks -/
theorem on_open {D : Nat → Prop} {w : World} {k n : Int} {s : ByteArray} {is : List V} {fs : List F} {cs : List Value} (h : On D (fun Z => RepV Z (.mk k n s is fs) cs) w) :
    ∃ ai ci af cf EF, cs = [.int .i64 k, .int .i64 n, .string s, .slice ai is.length ci, .slice af fs.length cf] ∧ i64ok k ∧ i64ok n ∧ s.size ≤ maxLen ∧
      On D (fun Z => ∃ EI, Sl Z (.slice ai is.length ci) is.length EI.flatten ∧ All2 (RepV Z) is EI) w ∧ On D (fun Z => Sl Z (.slice af fs.length cf) fs.length EF.flatten ∧ All2 (RepF Z) fs EF) w := by
  obtain ⟨ai, ci, af, cf, EI, EF, rfl, h1, h2, h3, hV⟩ := RepV.open h.now
  refine ⟨ai, ci, af, cf, EF, rfl, h1, h2, h3, fun Z hZ => ?_, fun Z hZ => ?_⟩
  · obtain ⟨ai', ci', af', cf', EI', EF', e, _, _, _, hV'⟩ := RepV.open (h Z hZ)
    simp only [List.cons.injEq, Value.slice.injEq, and_true, true_and] at e
    obtain ⟨⟨rfl, rfl⟩, rfl, rfl⟩ := e
    exact ⟨EI', hV'.si, hV'.ri⟩
  · obtain ⟨ai', ci', af', cf', EI', EF', e, _, _, _, hV'⟩ := RepV.open (h Z hZ)
    simp only [List.cons.injEq, Value.slice.injEq, and_true, true_and] at e
    obtain ⟨⟨rfl, rfl⟩, rfl, rfl⟩ := e
    have l1 := hV.rf.length
    have l2 := hV'.rf.length
    have six1 : ∀ c ∈ EF, c.length = 6 := all_len (fun _ _ => RepF.len) hV.rf
    have six2 : ∀ c ∈ EF', c.length = 6 := all_len (fun _ _ => RepF.len) hV'.rf
    have hE : EF' = EF := by
      by_cases hn : fs.length = 0
      · rw [List.length_eq_zero_iff.1 (show EF'.length = 0 by omega), List.length_eq_zero_iff.1 (show EF.length = 0 by omega)]
      · have hne : ∀ {Z : World} {E : List (List Value)}, All2 (RepF Z) fs E → E.flatten ≠ [] := fun hA e => by
          have h7 := Rw.fl_len (k := 6) (all_len (fun _ _ => RepF.len) hA)
          have h8 := hA.length
          rw [e] at h7
          simp at h7
          omega
        obtain ⟨a, _, e, _, _, _, k3⟩ := id hV.sf
        injection e with e1 _ e2
        subst e1 e2
        obtain ⟨u, r, hur⟩ := List.exists_cons_of_ne_nil (hne hV.rf)
        obtain ⟨b, o, rfl, _⟩ := k3 0 u (by rw [hur]; rfl)
        have hD : D b := on_block (n := fs.length) (o := o) (q := cf) (by omega) (fun Z' hZ' => by
          obtain ⟨_, _, _, _, _, EF2, e, _, _, _, hV2⟩ := RepV.open (h Z' hZ')
          simp only [List.cons.injEq, Value.slice.injEq, and_true, true_and] at e
          obtain ⟨_, rfl, rfl⟩ := e
          exact ⟨EF2.flatten, hne hV2.rf, hV2.sf⟩)
        have hlt : b < w.heap.size := by
          obtain ⟨_, _, e, hc⟩ := k3 0 u (by rw [hur]; rfl)
          cases e
          exact World.block_lt_of_cell? _ _ hc
        refine (flat_inj (k := 6) (by omega) six1 six2 (sl_same hV.sf hV'.sf ?_ (hZ b hlt hD))).symm
        rw [Rw.fl_len six1, Rw.fl_len six2]; omega
    rw [hE] at hV'
    exact ⟨hV'.sf, hV'.rf⟩
/-- fields one by one, each on the same blocks -/
theorem on_all {D : Nat → Prop} {w : World} {fs : List F} {E : List (List Value)} (h : On D (fun Z => All2 (RepF Z) fs E) w) : All2 (fun f c => On D (fun Z => RepF Z f c) w) fs E := by
  induction fs generalizing E with
  | nil => cases E with
    | nil => trivial
    | cons c r => exact h.now.elim
  | cons f l ih => cases E with
    | nil => exact h.now.elim
    | cons c r => exact ⟨h.map (fun _ h => h.1), ih (h.map (fun _ h => h.2))⟩
theorem all_on {D : Nat → Prop} {w : World} : ∀ {fs : List F} {E : List (List Value)}, All2 (fun f c => On D (fun Z => RepF Z f c) w) fs E → On D (fun Z => All2 (RepF Z) fs E) w
  | [], [], _ => fun _ _ => trivial
  | _ :: _, _ :: _, h => fun Z hZ => ⟨h.1 Z hZ, all_on h.2 Z hZ⟩
  | [], _ :: _, h => h.elim
  | _ :: _, [], h => h.elim
theorem on_field {D : Nat → Prop} {w : World} {nm : ByteArray} {y : V} {c : List Value} (h : On D (fun Z => RepV Z y c) w) (hn : nm.size ≤ maxLen) : On D (fun Z => RepF Z (.mk nm y) (.string nm :: c)) w := h.map (fun Z h => by
  simp only [RepF]; exact ⟨c, rfl, hn, h⟩)
theorem on_value {D : Nat → Prop} {w : World} {nm : ByteArray} {y : V} {c : List Value} (h : On D (fun Z => RepF Z (.mk nm y) (.string nm :: c)) w) : On D (fun Z => RepV Z y c) w := h.map (fun Z h => by
  simp only [RepF] at h
  obtain ⟨c', e, _, h⟩ := h
  injection e with _ e
  subst e; exact h)
end Fd
end Go.Proofs.Ytkjgifhklajifaa
