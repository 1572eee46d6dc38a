/- Plain: the entries of a patch one by one; entries sorted by name are the fields laid in; a row of fields that grows at its end. allDigits, whole, isPre, within of package value. strings.TrimLeft at one zero, cmp.Or at three ints, comparePre, slices.CompareFunc by comparePre. (Spl without versions) Texts split and joined; numerals written and read: the library's contracts at the seat, in plain words. Plain: a value read off a text: what each step takes, what is left, and where an error is. What a value hangs on: it reads as long as the cells of certain blocks stay. No program stands in it but the types' numbers. -/
import Derived.Test.YtbhcfmdogdaodaaDoorTe06
import Derived.Test.YtbhcfmdogdaodaaDoorProg
import Derived.Test.YtbhcfmdogdaodaaDoorTe00
import Derived.Test.YtbhcfmdogdaodaaDoorShelf
import Derived.Test.YtbhcfmdogdaodaaDoorTe02
import Derived.Lib.SmallJoins
import Derived.Lib.AppendIntMem
import Derived.Test.YtbhcfmdogdaodaaDoorTe03
namespace Go.Proofs.YtbhcfmdogdaodaaDoor
open Go.RowKit
namespace Fd
open _root_.Go.Proofs.YtbhcfmdogdaodaaDoor.Rw (All2 All2.length All2.get All2.mono All2.append Kept Fresh)
/-- the fields of the second value that the first lacks -/
def newF (fs ts : List F) : List F := ts.filter fun f => (lk fs (nmF f)).isNone
theorem ents_is (fs ts : List F) : ents fs ts = patchFs fs ts ++ newF fs ts := rfl
/-- entries in order of their names are the fields laid in one by one -/
theorem sorted_put {S L : List F} (hp : S.Perm L) (hs : S.Pairwise (fun a b => cmpS (nmF a) (nmF b) ≤ 0)) (hn : L.Pairwise fun a b => nmF a ≠ nmF b) : S = putAll [] L := by
  have hn2 : S.Pairwise fun a b => nmF a ≠ nmF b := (hp.pairwise_iff (fun h => h.symm)).2 hn
  have hS : Srt S := (List.pairwise_and_iff.2 ⟨hs, hn2⟩).imp (fun {a b} h => by
    have h1 : cmpS (nmF a) (nmF b) ≠ 0 := fun e => h.2 (cmpS_zero e)
    have := h.1
    omega)
  have hmem : ∀ {l : List F}, (l.Pairwise fun a b => nmF a ≠ nmF b) → ∀ f ∈ l, lk l (nmF f) = some (vlF f) := by
    intro l
    induction l with
    | nil => intro _ f hf; cases hf
    | cons g r ih =>
      intro h f hf
      obtain ⟨h1, h2⟩ := List.pairwise_cons.1 h
      rw [lk]
      rcases List.mem_cons.1 hf with rfl | hf
      · rw [if_pos rfl]
      · rw [if_neg (h1 f hf)]; exact ih h2 f hf
  refine srt_ext hS (srt_putAll List.Pairwise.nil) (fun m => ?_)
  rw [lk_putAll List.Pairwise.nil hn]
  cases h : lk L m with
  | some x =>
    have h1 := lk_mem h
    have h2 : F.mk m x ∈ S := hp.mem_iff.2 h1
    exact hmem hn2 _ h2
  | none =>
    have h1 : lk S m = none := lk_none (fun f hf e => by
      have h2 : f ∈ L := hp.mem_iff.1 hf
      have h3 := hmem hn f h2
      rw [e, h] at h3
      cases h3)
    rw [h1]; rfl
section
variable {N : Nat} {w w' : World} {fs : List F} {E : List (List Value)}
end
end Fd
end Go.Proofs.YtbhcfmdogdaodaaDoor
namespace Go.Proofs.YtbhcfmdogdaodaaDoor
open Go.RowKit
namespace Dg
theorem ret_bool {a b : Bool} (h : a = b) : Ending.returned (.bool a) = .returned (.bool b) := by rw [h]
theorem all_snoc (p : UInt8 → Bool) (s : ByteArray) (k : Nat) (hk : k < s.size) (h : (s.data.toList.take k).all p = true) (hp : p s[k] = true) : (s.data.toList.take (k + 1)).all p = true := by
  rw [take_snoc s k hk, List.all_append, h]; simp [hp]
theorem all_not (p : UInt8 → Bool) (s : ByteArray) (k : Nat) (hk : k < s.size) (hp : p s[k] = false) : s.data.toList.all p = false := by
  rw [List.all_eq_false]
  exact ⟨s[k], by rw [show s[k] = s.data.toList[k]'(by simpa using hk) from rfl]; exact List.getElem_mem _, by simp [hp]⟩
theorem all_end (p : UInt8 → Bool) (s : ByteArray) (k : Nat) (hk : ¬ k < s.size) (h : (s.data.toList.take k).all p = true) : s.data.toList.all p = true := by
  rwa [List.take_of_length_le (by simp; omega)] at h
end Dg
end Go.Proofs.YtbhcfmdogdaodaaDoor
namespace Go.Proofs.YtbhcfmdogdaodaaDoor
open Go.RowKit
def trimZ : List UInt8 → List UInt8
  | [] => []
  | c :: l => if (c.toNat : Int) = 48 then trimZ l else c :: l
def trimA (s : ByteArray) : ByteArray := ⟨(trimZ s.data.toList).toArray⟩
def numP (a b : ByteArray) : Int := orI (cmpI ((trimA a).size : Int) ((trimA b).size : Int)) (cmpS (trimA a) (trimA b))
def strs (l : List ByteArray) : List Value := l.map Value.string
theorem strs_get {l : List ByteArray} {k : Nat} (h : k < l.length) : (strs l)[k]? = some (.string l[k]) := by simp [strs, h]
theorem Sl.addr {w : World} {a : Option Addr} {n c : Nat} {cs : List Value} (h : Sl w (.slice a n c) n cs) {k : Nat} {x : Value} (hk : cs[k]? = some x) : ∃ b o, a = some ⟨b, o, none⟩ ∧ w.cell? ⟨b, o + k, none⟩ = some x := by
  obtain ⟨a', cap, hv, _, _, _, h3⟩ := h
  cases hv
  exact h3 _ _ hk
end Go.Proofs.YtbhcfmdogdaodaaDoor
namespace Go.Proofs.YtbhcfmdogdaodaaDoor
open Go.RowKit
namespace Tx
open _root_.Go.Proofs.YtbhcfmdogdaodaaDoor.Nm
/-- the table that strconv reads -/
def Tb (w : World) : Prop := Lib.TabIs Tryd.prog w "internal/strconv.uint64pow10" .u64 Lib.pow10Tab
theorem Tb.ext {w w' : World} (h : Tb w) (hb : Below w.heap.size w w') : Tb w' := by
  cases hg : Tryd.prog.globalNamed "internal/strconv.uint64pow10" with
  | none => unfold Tb Lib.TabIs World.var? at h; rw [hg] at h; cases h
  | some g => exact Joins.tab_stays hg h hb (Nat.le_refl _)
/-- the library's own bound holds some number -/
def Ml (w : World) : Prop := ∃ m : Int, w.cell? ⟨0, 0, none⟩ = some (.int .i64 m)
theorem Ml.ext {w w' : World} (h : Ml w) (hb : Below w.heap.size w w') : Ml w' := by
  obtain ⟨m, hm⟩ := h
  exact ⟨m, (hb.cell (World.block_lt_of_cell? _ _ hm)).trans hm⟩
def stB (l : List UInt8) : ByteArray := ⟨l.toArray⟩
theorem stB_list (l : List UInt8) : (stB l).data.toList = l := rfl
theorem stB_self (s : ByteArray) : stB s.data.toList = s := by cases s; simp [stB]
theorem stB_size (l : List UInt8) : (stB l).size = l.length := by simp [stB, ByteArray.size]
theorem itoa_at (n : Nat) (hn : n ≤ 9223372036854775807) (w : World) (ht : Tb w) : Calls Tryd.prog 90 #[.int .i64 (n : Int)] w fun e w' => e = .returned (.string (stB (decS n))) ∧ Below w.heap.size w w' := by
  refine (Tryd.strconv_Itoa (n : Int) (by omega) (by omega) w ht).mono ?_
  rintro e w' ⟨rfl, k, os, rfl⟩
  exact ⟨by rw [itoa_is, itoaS_nat]; rfl, Lib.below_grow _ _ (Nat.le_refl _) _ _⟩
end Tx
end Go.Proofs.YtbhcfmdogdaodaaDoor
namespace Go.Proofs.YtbhcfmdogdaodaaDoor
namespace Fd
open _root_.Go.Proofs.YtbhcfmdogdaodaaDoor.Tx _root_.Go.Proofs.YtbhcfmdogdaodaaDoor.Nm
/-- what a step gives: a result and what is left; or what is left at the error, and the error -/
inductive Res (α : Type) where
  | ok (v : α) (r : List UInt8)
  | bad (r : List UInt8) (e : Int)
def Res.bind {α β : Type} (x : Res α) (f : α → List UInt8 → Res β) : Res β := match x with
  | .ok v r => f v r
  | .bad r e => .bad r e
def blankB (c : UInt8) : Bool := c == 9 || c == 10 || c == 13 || c == 32
def skipW : List UInt8 → List UInt8
  | [] => []
  | c :: r => if blankB c = true then skipW r else c :: r
def signP (c : UInt8) : List UInt8 → Res Unit
  | [] => .bad [] 10
  | b :: r => if b = c then .ok () r else .bad (b :: r) 10
def wordP : List UInt8 → List UInt8 → Res Unit
  | [], l => .ok () l
  | c :: w, l => (signP c l).bind fun _ r => wordP w r
def digB (c : UInt8) : Bool := decide (48 ≤ c.toNat ∧ c.toNat ≤ 57)
/-- digits, at most so many more -/
def digP (most : Nat) : Nat → Nat → List UInt8 → Res (Nat × Nat)
  | n, k, [] => if k = 0 then .bad [] 10 else .ok (n, k) []
  | n, k, c :: r => if digB c = true then (if k = most then .bad (c :: r) 10 else digP most (n * 10 + digv c) (k + 1) r) else if k = 0 then .bad (c :: r) 10 else .ok (n, k) (c :: r)
/-- what stands behind the whole part of a number of so many wholes -/
def fracP (n : Nat) : List UInt8 → Res Nat
  | [] => .ok (n * 1000) []
  | c :: r => if c = 46 then (digP 3 0 0 r).bind fun v q => .ok (n * 1000 + v.1 * 10 ^ (3 - v.2)) q else .ok (n * 1000) (c :: r)
def wholeP : List UInt8 → Res Nat
  | [] => .bad [] 10
  | c :: r => if c = 48 then (match r with
      | [] => .ok 0 []
      | b :: q => if digB b = true then .bad (b :: q) 10 else .ok 0 (b :: q))
    else (digP 12 0 0 (c :: r)).bind fun v q => .ok v.1 q
def numP : List UInt8 → Res Int
  | [] => .bad [] 10
  | c :: r => if c = 45 then (wholeP r).bind fun n q => (fracP n q).bind fun m t => .ok (-(m : Int)) t
    else (wholeP (c :: r)).bind fun n q => (fracP n q).bind fun m t => .ok (m : Int) t
/-- a digit of base 16 -/
def hexd (c : UInt8) : Option Nat :=
  if 48 ≤ c.toNat ∧ c.toNat ≤ 57 then some (c.toNat - 48) else if 97 ≤ c.toNat ∧ c.toNat ≤ 102 then some (c.toNat - 87) else if 65 ≤ c.toNat ∧ c.toNat ≤ 70 then some (c.toNat - 55) else none
def hexP : Nat → Nat → List UInt8 → Res Nat
  | 0, n, l => .ok n l
  | _ + 1, _, [] => .bad [] 10
  | k + 1, n, c :: r => match hexd c with
    | none => .bad (c :: r) 10
    | some d => hexP k (n * 16 + d) r
/-- what stands behind a backslash -/
def escP : List UInt8 → Res UInt8
  | [] => .bad [] 10
  | c :: r => if c = 34 ∨ c = 92 ∨ c = 47 then .ok c r else if c = 117 then (match hexP 4 0 r with
      | .bad q e => .bad q e
      | .ok n q => if n < 32 ∨ 126 < n then .bad (c :: r) 10 else .ok (UInt8.ofNat n) q)
    else .bad (c :: r) 10
/-- a text behind its first quote -/
def txtP : Nat → List UInt8 → List UInt8 → Res (List UInt8)
  | 0, _, l => .bad l 10
  | _ + 1, _, [] => .bad [] 10
  | f + 1, acc, c :: r => if c.toNat < 32 ∨ 126 < c.toNat then .bad (c :: r) 10 else if c = 34 then .ok acc r else if c = 92 then (match escP r with
      | .bad q e => .bad q e
      | .ok b q => txtP f (acc ++ [b]) q)
    else txtP f (acc ++ [c]) r
def textP (l : List UInt8) : Res (List UInt8) := (signP 34 l).bind fun _ r => txtP (r.length + 1) [] r
/-- behind an element: a comma and blanks, or the end -/
def moreP (c : UInt8) (l : List UInt8) : Res Bool := match skipW l with
  | [] => .bad [] 10
  | b :: r => if b = 44 then .ok true (skipW r) else if b = c then .ok false r else .bad (b :: r) 10
def txtV (l : List UInt8) : V := .mk 3 0 (stB l) [] []
mutual
/-- a value; the first number bounds the steps -/
def valP : Nat → List UInt8 → Res V
  | 0, l => .bad l 10
  | _ + 1, [] => .bad [] 10
  | f + 1, c :: r =>
    if c = 110 then (wordP [110, 117, 108, 108] (c :: r)).bind fun _ q => .ok V0 q
    else if c = 116 then (wordP [116, 114, 117, 101] (c :: r)).bind fun _ q => .ok (.mk 1 1 ByteArray.empty [] []) q
    else if c = 102 then (wordP [102, 97, 108, 115, 101] (c :: r)).bind fun _ q => .ok (.mk 1 0 ByteArray.empty [] []) q
    else if c = 34 then (textP (c :: r)).bind fun t q => .ok (txtV t) q
    else if c = 91 then (match skipW r with
      | [] => (elsP f [] []).bind fun is q => .ok (.mk 4 0 ByteArray.empty is []) q
      | b :: q => if b = 93 then .ok (.mk 4 0 ByteArray.empty [] []) q else (elsP f [] (b :: q)).bind fun is t => .ok (.mk 4 0 ByteArray.empty is []) t)
    else if c = 123 then (match skipW r with
      | [] => (fldP f [] []).bind fun fs q => .ok (obj (putAll [] fs)) q
      | b :: q => if b = 125 then .ok (obj []) q else (fldP f [] (b :: q)).bind fun fs t => .ok (obj (putAll [] fs)) t)
    else if c = 45 ∨ digB c = true then (numP (c :: r)).bind fun n q => .ok (.mk 2 n ByteArray.empty [] []) q
    else .bad (c :: r) 10
/-- elements, from a value on -/
def elsP : Nat → List V → List UInt8 → Res (List V)
  | 0, _, l => .bad l 10
  | f + 1, acc, l => match valP f l with
    | .bad q e => .bad q e
    | .ok x q => match moreP 93 q with
      | .bad t e => .bad t e
      | .ok true t => elsP f (acc ++ [x]) t
      | .ok false t => .ok (acc ++ [x]) t
/-- fields, from a name on -/
def fldP : Nat → List F → List UInt8 → Res (List F)
  | 0, _, l => .bad l 10
  | f + 1, acc, l => match textP l with
    | .bad q e => .bad q e
    | .ok nm q => if (lk acc (stB nm)).isSome = true then .bad l 7 else match signP 58 (skipW q) with
      | .bad t e => .bad t e
      | .ok _ t => match valP f (skipW t) with
        | .bad u e => .bad u e
        | .ok x u => match moreP 125 u with
          | .bad v e => .bad v e
          | .ok true v => fldP f (acc ++ [.mk (stB nm) x]) v
          | .ok false v => .ok (acc ++ [.mk (stB nm) x]) v
end
/-- a whole text -/
def allP (l : List UInt8) : Res V := (valP (2 * l.length + 2) (skipW l)).bind fun x r => match skipW r with
  | [] => .ok x []
  | c :: q => .bad (c :: q) 10
/-- what Read answers: a value, a place, an error -/
def readF (l : List UInt8) : V × Int × Int := if 20000 < l.length then (V0, 0, 2) else match allP l with
  | .bad r e => (V0, ((l.length - r.length : Nat) : Int), e)
  | .ok x _ => if chkF x ≠ 0 then (V0, 0, chkF x) else (x, 0, 0)
end Fd
end Go.Proofs.YtbhcfmdogdaodaaDoor
namespace Go.Proofs.YtbhcfmdogdaodaaDoor
open Go.RowKit
namespace Fd
open _root_.Go.Proofs.YtbhcfmdogdaodaaDoor.Rw (All2 All2.length All2.get All2.mono sl_blocks fl_at)
mutual
theorem RepV.blocks {w w' : World} (hb : ∀ q, q < w.heap.size → w'.heap[q]? = w.heap[q]?) : ∀ {x : V} {cs : List Value}, RepV w x cs → RepV w' x cs
  | .mk k n s is fs, cs, h => by
    simp only [RepV] at h ⊢
    obtain ⟨vi, vf, ics, fcs, h0, h1, h2, h3, h4, h5, h6, h7⟩ := h
    exact ⟨vi, vf, ics, fcs, h0, h1, h2, h3, sl_blocks h4 hb, RepL.blocks hb h5, sl_blocks h6 hb, RepFs.blocks hb h7⟩
theorem RepL.blocks {w w' : World} (hb : ∀ q, q < w.heap.size → w'.heap[q]? = w.heap[q]?) : ∀ {x : List V} {cs : List Value}, RepL w x cs → RepL w' x cs
  | [], cs, h => by simpa only [RepL] using h
  | x :: xs, cs, h => by
    simp only [RepL] at h ⊢
    obtain ⟨c, r, h0, h1, h2⟩ := h
    exact ⟨c, r, h0, RepV.blocks hb h1, RepL.blocks hb h2⟩
theorem RepF.blocks {w w' : World} (hb : ∀ q, q < w.heap.size → w'.heap[q]? = w.heap[q]?) : ∀ {x : F} {cs : List Value}, RepF w x cs → RepF w' x cs
  | .mk a x, cs, h => by
    simp only [RepF] at h ⊢
    obtain ⟨c, h0, h1, h2⟩ := h
    exact ⟨c, h0, h1, RepV.blocks hb h2⟩
theorem RepFs.blocks {w w' : World} (hb : ∀ q, q < w.heap.size → w'.heap[q]? = w.heap[q]?) : ∀ {x : List F} {cs : List Value}, RepFs w x cs → RepFs w' x cs
  | [], cs, h => by simpa only [RepFs] using h
  | x :: xs, cs, h => by
    simp only [RepFs] at h ⊢
    obtain ⟨c, r, h0, h1, h2⟩ := h
    exact ⟨c, r, h0, RepF.blocks hb h1, RepFs.blocks hb h2⟩
end
/-- it holds as long as the blocks that D names stay -/
def On (D : Nat → Prop) (P : World → Prop) (w : World) : Prop := ∀ Z, (∀ q, q < w.heap.size → D q → Z.heap[q]? = w.heap[q]?) → P Z
section
variable {D D' : Nat → Prop} {P : World → Prop} {w w' : World}
theorem On.now (h : On D P w) : P w := h w (fun _ _ _ => rfl)
theorem On.mono (h : On D P w) (hD : ∀ q, q < w.heap.size → D q → D' q) : On D' P w := fun Z hZ => h Z (fun q h1 h2 => hZ q h1 (hD q h1 h2))
theorem On.keep (h : On D P w) (hs : w.heap.size ≤ w'.heap.size) (hk : ∀ q, q < w.heap.size → D q → w'.heap[q]? = w.heap[q]?) : On D P w' := fun Z hZ => h Z (fun q h1 h2 => (hZ q (by omega) h2).trans (hk q h1 h2))
theorem On.below (h : On D P w) (hb : Below w.heap.size w w') : On D P w' := h.keep hb.size (fun q h1 _ => hb.block q h1)
theorem On.map {P' : World → Prop} (h : On D P w) (f : ∀ Z, P Z → P' Z) : On D P' w := fun Z hZ => f Z (h Z hZ)
end
theorem RepV.on {w : World} {x : V} {c : List Value} (h : RepV w x c) : On (fun _ => True) (fun Z => RepV Z x c) w := fun _ hZ => RepV.blocks (fun q hq => hZ q hq trivial) h
/-- a slice that hangs on certain blocks lies in one of them -/
theorem on_block {D : Nat → Prop} {w : World} {b o n q : Nat} (_hn : 0 < n) (h : On D (fun Z => ∃ cs, cs ≠ [] ∧ Sl Z (.slice (some ⟨b, o, none⟩) n q) n cs) w) : D b := by
  refine Classical.byContradiction fun hD => ?_
  obtain ⟨cs, hcs, a, _, e, _, _, _, h3⟩ := h { w with heap := w.heap.setIfInBounds b (.cells #[] 0) } (fun q hq h1 => by
    show (w.heap.setIfInBounds b _)[q]? = _
    rw [Array.getElem?_setIfInBounds]
    by_cases e : b = q
    · subst e; exact absurd h1 hD
    · rw [if_neg e])
  cases e
  cases cs with
  | nil => exact hcs rfl
  | cons u r =>
    obtain ⟨b', o', e, hc⟩ := h3 0 u rfl
    cases e
    have hlt := World.block_lt_of_cell? _ _ hc
    simp only [World.cell?] at hc
    rw [Array.getElem?_setIfInBounds_self_of_lt (by simpa using hlt)] at hc
    simp at hc
theorem sl_same {w Z : World} {b o n q : Nat} {cs ds : List Value} (h1 : Sl w (.slice (some ⟨b, o, none⟩) n q) n cs) (h2 : Sl Z (.slice (some ⟨b, o, none⟩) n q) n ds) (hl : cs.length = ds.length) (hb : Z.heap[b]? = w.heap[b]?) : cs = ds := by
  obtain ⟨_, _, e1, _, _, _, k1⟩ := h1
  obtain ⟨_, _, e2, _, _, _, k2⟩ := h2
  cases e1; cases e2
  refine List.ext_getElem hl fun i hi hi' => ?_
  obtain ⟨_, _, e, c1⟩ := k1 i _ (List.getElem?_eq_getElem hi)
  cases e
  obtain ⟨_, _, e, c2⟩ := k2 i _ (List.getElem?_eq_getElem hi')
  cases e
  rw [World.cell?_of_block (w := w) (a := ⟨b, o + i, none⟩) hb, c1] at c2
  exact Option.some.inj c2
theorem flat_inj {k : Nat} (h0 : 0 < k) : ∀ {E E' : List (List Value)}, (∀ c ∈ E, c.length = k) → (∀ c ∈ E', c.length = k) → E.flatten = E'.flatten → E = E'
  | [], [], _, _, _ => rfl
  | [], c :: r, _, h, e => by
    have := h c (by simp)
    have e2 := congrArg List.length e
    rw [List.flatten_cons, List.length_append, List.flatten_nil, List.length_nil] at e2; omega
  | c :: r, [], h, _, e => by
    have := h c (by simp)
    have e2 := congrArg List.length e
    rw [List.flatten_cons, List.length_append, List.flatten_nil, List.length_nil] at e2; omega
  | c :: r, c' :: r', h, h', e => by
    rw [List.flatten_cons, List.flatten_cons] at e
    obtain ⟨e1, e2⟩ := List.append_inj e (by rw [h c (by simp), h' c' (by simp)])
    rw [e1, flat_inj h0 (fun x hx => h x (by simp [hx])) (fun x hx => h' x (by simp [hx])) e2]
/-- the cells of a value that hangs on certain blocks -/
theorem on_open {D : Nat → Prop} {w : World} {k n : Int} {s : ByteArray} {is : List V} {fs : List F} {cs : List Value} (h : On D (fun Z => RepV Z (.mk k n s is fs) cs) w) :
    ∃ ai ci af cf EF, cs = [.int .i64 k, .int .i64 n, .string s, .slice ai is.length ci, .slice af fs.length cf] ∧ i64ok k ∧ i64ok n ∧ s.size ≤ maxLen ∧
      On D (fun Z => ∃ EI, Sl Z (.slice ai is.length ci) is.length EI.flatten ∧ All2 (RepV Z) is EI) w ∧ On D (fun Z => Sl Z (.slice af fs.length cf) fs.length EF.flatten ∧ All2 (RepF Z) fs EF) w := by
  obtain ⟨ai, ci, af, cf, EI, EF, rfl, h1, h2, h3, hV⟩ := RepV.open h.now
  refine ⟨ai, ci, af, cf, EF, rfl, h1, h2, h3, fun Z hZ => ?_, fun Z hZ => ?_⟩
  · obtain ⟨ai', ci', af', cf', EI', EF', e, _, _, _, hV'⟩ := RepV.open (h Z hZ)
    simp only [List.cons.injEq, Value.slice.injEq, and_true, true_and] at e
    obtain ⟨⟨rfl, rfl⟩, rfl, rfl⟩ := e
    exact ⟨EI', hV'.si, hV'.ri⟩
  · obtain ⟨ai', ci', af', cf', EI', EF', e, _, _, _, hV'⟩ := RepV.open (h Z hZ)
    simp only [List.cons.injEq, Value.slice.injEq, and_true, true_and] at e
    obtain ⟨⟨rfl, rfl⟩, rfl, rfl⟩ := e
    have l1 := hV.rf.length
    have l2 := hV'.rf.length
    have six1 : ∀ c ∈ EF, c.length = 6 := all_len (fun _ _ => RepF.len) hV.rf
    have six2 : ∀ c ∈ EF', c.length = 6 := all_len (fun _ _ => RepF.len) hV'.rf
    have hE : EF' = EF := by
      by_cases hn : fs.length = 0
      · rw [List.length_eq_zero_iff.1 (show EF'.length = 0 by omega), List.length_eq_zero_iff.1 (show EF.length = 0 by omega)]
      · have hne : ∀ {Z : World} {E : List (List Value)}, All2 (RepF Z) fs E → E.flatten ≠ [] := fun hA e => by
          have h7 := Rw.fl_len (k := 6) (all_len (fun _ _ => RepF.len) hA)
          have h8 := hA.length
          rw [e] at h7
          simp at h7
          omega
        obtain ⟨a, _, e, _, _, _, k3⟩ := id hV.sf
        injection e with e1 _ e2
        subst e1 e2
        obtain ⟨u, r, hur⟩ := List.exists_cons_of_ne_nil (hne hV.rf)
        obtain ⟨b, o, rfl, _⟩ := k3 0 u (by rw [hur]; rfl)
        have hD : D b := on_block (n := fs.length) (o := o) (q := cf) (by omega) (fun Z' hZ' => by
          obtain ⟨_, _, _, _, _, EF2, e, _, _, _, hV2⟩ := RepV.open (h Z' hZ')
          simp only [List.cons.injEq, Value.slice.injEq, and_true, true_and] at e
          obtain ⟨_, rfl, rfl⟩ := e
          exact ⟨EF2.flatten, hne hV2.rf, hV2.sf⟩)
        have hlt : b < w.heap.size := by
          obtain ⟨_, _, e, hc⟩ := k3 0 u (by rw [hur]; rfl)
          cases e
          exact World.block_lt_of_cell? _ _ hc
        refine (flat_inj (k := 6) (by omega) six1 six2 (sl_same hV.sf hV'.sf ?_ (hZ b hlt hD))).symm
        rw [Rw.fl_len six1, Rw.fl_len six2]; omega
    rw [hE] at hV'
    exact ⟨hV'.sf, hV'.rf⟩
/-- fields one by one, each on the same blocks -/
theorem on_all {D : Nat → Prop} {w : World} {fs : List F} {E : List (List Value)} (h : On D (fun Z => All2 (RepF Z) fs E) w) : All2 (fun f c => On D (fun Z => RepF Z f c) w) fs E := by
  induction fs generalizing E with
  | nil => cases E with
    | nil => trivial
    | cons c r => exact h.now.elim
  | cons f l ih => cases E with
    | nil => exact h.now.elim
    | cons c r => exact ⟨h.map (fun _ h => h.1), ih (h.map (fun _ h => h.2))⟩
theorem on_field {D : Nat → Prop} {w : World} {nm : ByteArray} {y : V} {c : List Value} (h : On D (fun Z => RepV Z y c) w) (hn : nm.size ≤ maxLen) : On D (fun Z => RepF Z (.mk nm y) (.string nm :: c)) w := h.map (fun Z h => by
  simp only [RepF]; exact ⟨c, rfl, hn, h⟩)
theorem on_value {D : Nat → Prop} {w : World} {nm : ByteArray} {y : V} {c : List Value} (h : On D (fun Z => RepF Z (.mk nm y) (.string nm :: c)) w) : On D (fun Z => RepV Z y c) w := h.map (fun Z h => by
  simp only [RepF] at h
  obtain ⟨c', e, _, h⟩ := h
  injection e with _ e
  subst e; exact h)
/-- the cells of a row that hangs on certain blocks -/
theorem on_fix {α : Type} {D : Nat → Prop} {w : World} {R : World → α → List Value → Prop} {k : Nat} (h0 : 0 < k) (hlen : ∀ Z x c, R Z x c → c.length = k) {l : List α} {a : Option Addr} {q : Nat}
    (h : On D (fun Z => ∃ E : List (List Value), Sl Z (.slice a l.length q) l.length E.flatten ∧ All2 (R Z) l E) w) : ∃ E : List (List Value), On D (fun Z => Sl Z (.slice a l.length q) l.length E.flatten ∧ All2 (R Z) l E) w := by
  obtain ⟨E, hs, hr⟩ := h.now
  refine ⟨E, fun Z hZ => ?_⟩
  obtain ⟨E', hs', hr'⟩ := h Z hZ
  have l1 := hr.length
  have l2 := hr'.length
  have k1 : ∀ c ∈ E, c.length = k := all_len (hlen w) hr
  have k2 : ∀ c ∈ E', c.length = k := all_len (hlen Z) hr'
  have hE : E' = E := by
    by_cases hn : l.length = 0
    · rw [List.length_eq_zero_iff.1 (show E'.length = 0 by omega), List.length_eq_zero_iff.1 (show E.length = 0 by omega)]
    · have hne : ∀ {Z : World} {E : List (List Value)}, All2 (R Z) l E → E.flatten ≠ [] := fun hA e => by
        have h7 := Rw.fl_len (k := k) (all_len (hlen _) hA)
        have h8 := hA.length
        rw [e, List.length_nil] at h7
        have := Nat.mul_pos (show 0 < _ from by omega : 0 < l.length) h0
        rw [h8] at this
        omega
      obtain ⟨a', _, e, _, _, _, k3⟩ := id hs
      injection e with e1 _ e2
      subst e1 e2
      obtain ⟨u, r, hur⟩ := List.exists_cons_of_ne_nil (hne hr)
      obtain ⟨b, o, rfl, _⟩ := k3 0 u (by rw [hur]; rfl)
      have hD : D b := on_block (n := l.length) (o := o) (q := q) (by omega) (fun Z' hZ' => by
        obtain ⟨E2, hs2, hr2⟩ := h Z' hZ'
        exact ⟨E2.flatten, hne hr2, hs2⟩)
      have hlt : b < w.heap.size := by
        obtain ⟨_, _, e, hc⟩ := k3 0 u (by rw [hur]; rfl)
        cases e
        exact World.block_lt_of_cell? _ _ hc
      refine (flat_inj (k := k) h0 k1 k2 (sl_same hs hs' ?_ (hZ b hlt hD))).symm
      rw [Rw.fl_len k1, Rw.fl_len k2, ← l1, ← l2]
  rw [hE] at hs' hr'
  exact ⟨hs', hr'⟩
theorem on_allR {α : Type} {D : Nat → Prop} {w : World} {R : World → α → List Value → Prop} {l : List α} {E : List (List Value)} (h : On D (fun Z => All2 (R Z) l E) w) : All2 (fun x c => On D (fun Z => R Z x c) w) l E := by
  induction l generalizing E with
  | nil => cases E with
    | nil => trivial
    | cons c r => exact h.now.elim
  | cons f l ih => cases E with
    | nil => exact h.now.elim
    | cons c r => exact ⟨h.map (fun _ h => h.1), ih (h.map (fun _ h => h.2))⟩
end Fd
end Go.Proofs.YtbhcfmdogdaodaaDoor
