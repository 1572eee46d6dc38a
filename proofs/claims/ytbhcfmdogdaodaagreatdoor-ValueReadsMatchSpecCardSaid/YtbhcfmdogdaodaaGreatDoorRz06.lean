/- Plain: a patch laid on field by field; rows of fields that are written. Printed by gen_vmrg.py. Plain: the entries of a patch one by one; entries sorted by name are the fields laid in; a row of fields that grows at its end. allDigits, whole, isPre, within of package value. strings.TrimLeft at one zero, cmp.Or at three ints, comparePre, slices.CompareFunc by comparePre. (Spl without versions) Texts split and joined; numerals written and read: the library's contracts at the seat, in plain words. Plain: a value read off a text: what each step takes, what is left, and where an error is. What a value hangs on: it reads as long as the cells of certain blocks stay. No program stands in it but the types' numbers. The program's reader in memory; fail and peek. Printed by gen_rda.py. -/
import Derived.Test.YtbhcfmdogdaodaaGreatDoorRz04
import Derived.Test.YtbhcfmdogdaodaaGreatDoorRz05
import Derived.Test.YtbhcfmdogdaodaaGreatDoorProg
import Derived.Test.YtbhcfmdogdaodaaGreatDoorRz00
import Derived.Test.YtbhcfmdogdaodaaGreatDoorShelf
import Derived.Test.YtbhcfmdogdaodaaGreatDoorRz02
import Derived.Lib.SmallJoins
import Derived.Lib.AppendIntMem
import Derived.Test.YtbhcfmdogdaodaaGreatDoorRz03
import Derived.BigQuiet
import Derived.IntWalk
namespace Go.Proofs.YtbhcfmdogdaodaaGreatDoor
open Go.RowKit
namespace Fd
open _root_.Go.Proofs.YtbhcfmdogdaodaaGreatDoor.Rw (All2 All2.length All2.get All2.mono All2.set All2.append All2.take All2.drop Kept Fresh fl_len fl_take)
theorem base_right {x : V} (h : chkV x = 0) : Srt (fields (base x)) ∧ ∀ f ∈ fields (base x), chkV (vlF f) = 0 := by
  unfold base
  by_cases hk : kind x = 5
  · rw [if_pos hk]; exact fields_ok h
  · rw [if_neg hk]; exact ⟨List.Pairwise.nil, fun f hf => by cases hf⟩
theorem put_len (nm : ByteArray) (y : V) : ∀ l : List F, (putF nm y l).length ≤ l.length + 1
  | [] => by simp [putF]
  | f :: r => by
    unfold putF
    split
    · simp
    · split
      · simp
      · have := put_len nm y r; simp; omega
theorem srt_ne' {l : List F} (h : Srt l) : l.Pairwise (fun a b => nmF a ≠ nmF b) := h.imp (fun h => lt_ne h)
theorem take_snoc {α : Type} {l : List α} {q : Nat} {x : α} (h : l[q]? = some x) : l.take (q + 1) = l.take q ++ [x] := by
  obtain ⟨hq, rfl⟩ := List.getElem?_eq_some_iff.1 h
  exact List.take_succ_eq_append_getElem hq
section
variable {N : Nat} {w w' : World} {fs : List F} {E : List (List Value)}
theorem TopF.mono {v : Value} (h : TopF N w fs v E) {M : Nat} (hM : M ≤ N) : TopF M w fs v E :=
  ⟨Rw.own_mono h.own hM, h.el.mono (fun _ _ hr w'' k => hr w'' (fun q h1 h2 h3 => k q (by omega) h2 h3))⟩
theorem TopF.form {v : Value} (h : TopF N w fs v E) (hn : 0 < fs.length) : ∃ g cap, v = .slice (some ⟨g, 0, none⟩) fs.length cap ∧ N ≤ g ∧ g < w.heap.size := h.own.form hn
theorem TopF.shape {v : Value} (h : TopF N w fs v E) : ∃ a c, v = .slice a fs.length c := by
  obtain ⟨a, c, e, _⟩ := h.sl
  exact ⟨a, c, e⟩
/-- an element's value is written anew -/
theorem TopF.put {g cap i n M : Nat} {nm : ByteArray} {c0 c : List Value} {m : V} (h : TopF N w fs (.slice (some ⟨g, 0, none⟩) n cap) E) (hE : E[i]? = some (.string nm :: c0)) (hnm : nm.size ≤ maxLen) (hc : FreV M w m c) (hl : c.length = 5) (hNM : N ≤ M) (hg : g < M) :
    TopF N (w.setCells g (i * 6 + 1) c) (fs.set i (.mk nm m)) (.slice (some ⟨g, 0, none⟩) n cap) (E.set i (.string nm :: c)) ∧ w.grownBy (w.setCells g (i * 6 + 1) c) (some g) := by
  obtain ⟨_, _, e, _⟩ := h.sl
  cases e
  obtain ⟨k1, k2⟩ := Rw.ownsRow_setCells c (i * 6 + 1) w E.flatten h.own
  refine ⟨⟨by rw [List.length_set, ← fl_put1 h.six hE hl]; exact k1, All2.set ?_ i (h.els k2 (.inl rfl))⟩, k2⟩
  exact el_new (w1 := w) (fre_field hc hnm) hNM k2.size (fun q h1 h2 => k2.block q h2 (by simp; omega)) (fun q h1 h2 => by show some q ≠ some g; simp; omega)
/-- one element more -/
theorem TopF.ins {v v' : Value} {i M : Nat} {nm : ByteArray} {c : List Value} {m : V} {w1 : World} (h : TopF N w fs v E) (hi : i ≤ fs.length) (hnm : nm.size ≤ maxLen) (hc : FreV M w1 m c) (hNM : N ≤ M) (hs : w1.heap.size ≤ w.heap.size) (hk : Kept M w1 w) (hg : ∀ q, v.ownBlock = some q → q < M)
    (hown : w'.ownsRow N 54 6 v' (fs.length + 1) (E.flatten.take (i * 6) ++ (.string nm :: c) ++ E.flatten.drop (i * 6))) (hgr : w.grownBy w' v.ownBlock) (hv : v'.ownBlock = v.ownBlock ∨ v'.ownBlock = some w.heap.size) :
    TopF N w' (fs.take i ++ .mk nm m :: fs.drop i) v' (E.take i ++ (.string nm :: c) :: E.drop i) := by
  rw [(fl_take h.six i).1, (fl_take h.six i).2] at hown
  have hels := h.els hgr hv
  refine ⟨?_, All2.append (hels.take i) ⟨?_, hels.drop i⟩⟩
  · rw [show (fs.take i ++ F.mk nm m :: fs.drop i).length = fs.length + 1 by rw [List.length_append, List.length_cons, List.length_take, List.length_drop]; omega]
    have e : (E.take i ++ (.string nm :: c) :: E.drop i).flatten = (E.take i).flatten ++ (.string nm :: c) ++ (E.drop i).flatten := by simp
    rw [e]; exact hown
  · refine el_new (fre_field hc hnm) hNM (Nat.le_trans hs hgr.size) (fun q h1 h2 => (hgr.block q (by omega) (fun e => ?_)).trans (hk q h1 h2)) (fun q h1 h2 => ?_)
    · have := hg q e.symm; omega
    · rcases hv with hv | hv
      · rw [hv]; intro e; have := hg q e.symm; omega
      · rw [hv]; simp; omega
end
theorem wp_vr3 {P : Program} {c : Code} {Q : Exit → Act → World → Prop} {a : Act} {w : World} {A B C : Array Value} {t u v : TypeId}
    (h : ∀ W, Below w.heap.size w W → Nt.RH W w.heap.size A t → Nt.RH W (w.heap.size + 1) B u → Nt.RH W (w.heap.size + 2) C v → c.wp P Q a W) : c.wp P Q a (((w.alloc (.cells A t)).alloc (.cells B u)).alloc (.cells C v)) := by
  refine h _ (by go_grown) (((Nt.RH.new w A t).ext (ext_alloc _ _)).ext (ext_alloc _ _)) ?_ ?_
  · have := Nt.RH.new (w.alloc (.cells A t)) B u
    exact Nt.RH.ext (by simpa using this) (ext_alloc _ _)
  · have := Nt.RH.new ((w.alloc (.cells A t)).alloc (.cells B u)) C v
    simpa using this
end Fd
end Go.Proofs.YtbhcfmdogdaodaaGreatDoor
namespace Go.Proofs.YtbhcfmdogdaodaaGreatDoor
open Go.RowKit
namespace Fd
open _root_.Go.Proofs.YtbhcfmdogdaodaaGreatDoor.Rw (All2 All2.length All2.get All2.mono All2.append Kept Fresh)
/-- the fields of the second value that the first lacks -/
def newF (fs ts : List F) : List F := ts.filter fun f => (lk fs (nmF f)).isNone
theorem ents_is (fs ts : List F) : ents fs ts = patchFs fs ts ++ newF fs ts := rfl
/-- entries in order of their names are the fields laid in one by one -/
theorem sorted_put {S L : List F} (hp : S.Perm L) (hs : S.Pairwise (fun a b => cmpS (nmF a) (nmF b) ≤ 0)) (hn : L.Pairwise fun a b => nmF a ≠ nmF b) : S = putAll [] L := by
  have hn2 : S.Pairwise fun a b => nmF a ≠ nmF b := (hp.pairwise_iff (fun h => h.symm)).2 hn
  have hS : Srt S := (List.pairwise_and_iff.2 ⟨hs, hn2⟩).imp (fun {a b} h => by
    have h1 : cmpS (nmF a) (nmF b) ≠ 0 := fun e => h.2 (cmpS_zero e)
    have := h.1
    omega)
  have hmem : ∀ {l : List F}, (l.Pairwise fun a b => nmF a ≠ nmF b) → ∀ f ∈ l, lk l (nmF f) = some (vlF f) := by
    intro l
    induction l with
    | nil => intro _ f hf; cases hf
    | cons g r ih =>
      intro h f hf
      obtain ⟨h1, h2⟩ := List.pairwise_cons.1 h
      rw [lk]
      rcases List.mem_cons.1 hf with rfl | hf
      · rw [if_pos rfl]
      · rw [if_neg (h1 f hf)]; exact ih h2 f hf
  refine srt_ext hS (srt_putAll List.Pairwise.nil) (fun m => ?_)
  rw [lk_putAll List.Pairwise.nil hn]
  cases h : lk L m with
  | some x =>
    have h1 := lk_mem h
    have h2 : F.mk m x ∈ S := hp.mem_iff.2 h1
    exact hmem hn2 _ h2
  | none =>
    have h1 : lk S m = none := lk_none (fun f hf e => by
      have h2 : f ∈ L := hp.mem_iff.1 hf
      have h3 := hmem hn f h2
      rw [e, h] at h3
      cases h3)
    rw [h1]; rfl
section
variable {N : Nat} {w w' : World} {fs : List F} {E : List (List Value)}
end
end Fd
end Go.Proofs.YtbhcfmdogdaodaaGreatDoor
namespace Go.Proofs.YtbhcfmdogdaodaaGreatDoor
open Go.RowKit
namespace Dg
theorem ret_bool {a b : Bool} (h : a = b) : Ending.returned (.bool a) = .returned (.bool b) := by rw [h]
theorem all_snoc (p : UInt8 → Bool) (s : ByteArray) (k : Nat) (hk : k < s.size) (h : (s.data.toList.take k).all p = true) (hp : p s[k] = true) : (s.data.toList.take (k + 1)).all p = true := by
  rw [take_snoc s k hk, List.all_append, h]; simp [hp]
theorem all_not (p : UInt8 → Bool) (s : ByteArray) (k : Nat) (hk : k < s.size) (hp : p s[k] = false) : s.data.toList.all p = false := by
  rw [List.all_eq_false]
  exact ⟨s[k], by rw [show s[k] = s.data.toList[k]'(by simpa using hk) from rfl]; exact List.getElem_mem _, by simp [hp]⟩
theorem all_end (p : UInt8 → Bool) (s : ByteArray) (k : Nat) (hk : ¬ k < s.size) (h : (s.data.toList.take k).all p = true) : s.data.toList.all p = true := by
  rwa [List.take_of_length_le (by simp; omega)] at h
end Dg
end Go.Proofs.YtbhcfmdogdaodaaGreatDoor
namespace Go.Proofs.YtbhcfmdogdaodaaGreatDoor
open Go.RowKit
def trimZ : List UInt8 → List UInt8
  | [] => []
  | c :: l => if (c.toNat : Int) = 48 then trimZ l else c :: l
def trimA (s : ByteArray) : ByteArray := ⟨(trimZ s.data.toList).toArray⟩
def numP (a b : ByteArray) : Int := orI (cmpI ((trimA a).size : Int) ((trimA b).size : Int)) (cmpS (trimA a) (trimA b))
def strs (l : List ByteArray) : List Value := l.map Value.string
theorem strs_get {l : List ByteArray} {k : Nat} (h : k < l.length) : (strs l)[k]? = some (.string l[k]) := by simp [strs, h]
theorem Sl.addr {w : World} {a : Option Addr} {n c : Nat} {cs : List Value} (h : Sl w (.slice a n c) n cs) {k : Nat} {x : Value} (hk : cs[k]? = some x) : ∃ b o, a = some ⟨b, o, none⟩ ∧ w.cell? ⟨b, o + k, none⟩ = some x := by
  obtain ⟨a', cap, hv, _, _, _, h3⟩ := h
  cases hv
  exact h3 _ _ hk
end Go.Proofs.YtbhcfmdogdaodaaGreatDoor
namespace Go.Proofs.YtbhcfmdogdaodaaGreatDoor
open Go.RowKit
namespace Tx
open _root_.Go.Proofs.YtbhcfmdogdaodaaGreatDoor.Nm
/-- the table that strconv reads -/
def Tb (w : World) : Prop := Lib.TabIs Tryz.prog w "internal/strconv.uint64pow10" .u64 Lib.pow10Tab
theorem Tb.ext {w w' : World} (h : Tb w) (hb : Below w.heap.size w w') : Tb w' := by
  cases hg : Tryz.prog.globalNamed "internal/strconv.uint64pow10" with
  | none => unfold Tb Lib.TabIs World.var? at h; rw [hg] at h; cases h
  | some g => exact Joins.tab_stays hg h hb (Nat.le_refl _)
/-- the library's own bound holds some number -/
def Ml (w : World) : Prop := ∃ m : Int, w.cell? ⟨0, 0, none⟩ = some (.int .i64 m)
theorem Ml.ext {w w' : World} (h : Ml w) (hb : Below w.heap.size w w') : Ml w' := by
  obtain ⟨m, hm⟩ := h
  exact ⟨m, (hb.cell (World.block_lt_of_cell? _ _ hm)).trans hm⟩
def stB (l : List UInt8) : ByteArray := ⟨l.toArray⟩
theorem stB_size (l : List UInt8) : (stB l).size = l.length := by simp [stB, ByteArray.size]
theorem atoi_at (s : ByteArray) (h : Digs s.data.toList) (h0 : 0 < s.size) (hl : s.size ≤ 18) (w : World) : Calls Tryz.prog 50 #[.string s] w fun e w' => e = .returned (.tuple #[.int .i64 ((decv s.data.toList : Nat) : Int), .nilIface]) ∧ Below w.heap.size w w' := by
  have hne : s.data.toList ≠ [] := by
    intro e
    have : s.data.toList.length = s.size := Array.length_toList
    rw [e] at this; simp at this; omega
  refine (Tryz.strconv_Atoi s _ hl (atoi_digs h hne) w).mono ?_
  rintro e w' ⟨rfl, t, rfl⟩
  refine ⟨rfl, ?_, ?_, ?_, ?_, ?_⟩
  · simp [Lib.bytesWorld, World.freeze]; rfl
  · simp [Lib.bytesWorld, World.freeze]
  · simp [Lib.bytesWorld, World.freeze]; rfl
  · rw [Lib.bytesWorld_size]; omega
  · exact fun k hk => Lib.bytesWorld_at_old _ _ _ _ hk
end Tx
end Go.Proofs.YtbhcfmdogdaodaaGreatDoor
namespace Go.Proofs.YtbhcfmdogdaodaaGreatDoor
namespace Fd
open _root_.Go.Proofs.YtbhcfmdogdaodaaGreatDoor.Tx _root_.Go.Proofs.YtbhcfmdogdaodaaGreatDoor.Nm
/-- what a step gives: a result and what is left; or what is left at the error, and the error -/
inductive Res (α : Type) where
  | ok (v : α) (r : List UInt8)
  | bad (r : List UInt8) (e : Int)
def Res.bind {α β : Type} (x : Res α) (f : α → List UInt8 → Res β) : Res β := match x with
  | .ok v r => f v r
  | .bad r e => .bad r e
def blankB (c : UInt8) : Bool := c == 9 || c == 10 || c == 13 || c == 32
def skipW : List UInt8 → List UInt8
  | [] => []
  | c :: r => if blankB c = true then skipW r else c :: r
def signP (c : UInt8) : List UInt8 → Res Unit
  | [] => .bad [] 10
  | b :: r => if b = c then .ok () r else .bad (b :: r) 10
def wordP : List UInt8 → List UInt8 → Res Unit
  | [], l => .ok () l
  | c :: w, l => (signP c l).bind fun _ r => wordP w r
def digB (c : UInt8) : Bool := decide (48 ≤ c.toNat ∧ c.toNat ≤ 57)
/-- digits, at most so many more -/
def digP (most : Nat) : Nat → Nat → List UInt8 → Res (Nat × Nat)
  | n, k, [] => if k = 0 then .bad [] 10 else .ok (n, k) []
  | n, k, c :: r => if digB c = true then (if k = most then .bad (c :: r) 10 else digP most (n * 10 + digv c) (k + 1) r) else if k = 0 then .bad (c :: r) 10 else .ok (n, k) (c :: r)
/-- what stands behind the whole part of a number of so many wholes -/
def fracP (n : Nat) : List UInt8 → Res Nat
  | [] => .ok (n * 1000) []
  | c :: r => if c = 46 then (digP 3 0 0 r).bind fun v q => .ok (n * 1000 + v.1 * 10 ^ (3 - v.2)) q else .ok (n * 1000) (c :: r)
def wholeP : List UInt8 → Res Nat
  | [] => .bad [] 10
  | c :: r => if c = 48 then (match r with
      | [] => .ok 0 []
      | b :: q => if digB b = true then .bad (b :: q) 10 else .ok 0 (b :: q))
    else (digP 12 0 0 (c :: r)).bind fun v q => .ok v.1 q
def numP : List UInt8 → Res Int
  | [] => .bad [] 10
  | c :: r => if c = 45 then (wholeP r).bind fun n q => (fracP n q).bind fun m t => .ok (-(m : Int)) t
    else (wholeP (c :: r)).bind fun n q => (fracP n q).bind fun m t => .ok (m : Int) t
/-- a digit of base 16 -/
def hexd (c : UInt8) : Option Nat :=
  if 48 ≤ c.toNat ∧ c.toNat ≤ 57 then some (c.toNat - 48) else if 97 ≤ c.toNat ∧ c.toNat ≤ 102 then some (c.toNat - 87) else if 65 ≤ c.toNat ∧ c.toNat ≤ 70 then some (c.toNat - 55) else none
def hexP : Nat → Nat → List UInt8 → Res Nat
  | 0, n, l => .ok n l
  | _ + 1, _, [] => .bad [] 10
  | k + 1, n, c :: r => match hexd c with
    | none => .bad (c :: r) 10
    | some d => hexP k (n * 16 + d) r
/-- what stands behind a backslash -/
def escP : List UInt8 → Res UInt8
  | [] => .bad [] 10
  | c :: r => if c = 34 ∨ c = 92 ∨ c = 47 then .ok c r else if c = 117 then (match hexP 4 0 r with
      | .bad q e => .bad q e
      | .ok n q => if n < 32 ∨ 126 < n then .bad (c :: r) 10 else .ok (UInt8.ofNat n) q)
    else .bad (c :: r) 10
/-- a text behind its first quote -/
def txtP : Nat → List UInt8 → List UInt8 → Res (List UInt8)
  | 0, _, l => .bad l 10
  | _ + 1, _, [] => .bad [] 10
  | f + 1, acc, c :: r => if c.toNat < 32 ∨ 126 < c.toNat then .bad (c :: r) 10 else if c = 34 then .ok acc r else if c = 92 then (match escP r with
      | .bad q e => .bad q e
      | .ok b q => txtP f (acc ++ [b]) q)
    else txtP f (acc ++ [c]) r
def textP (l : List UInt8) : Res (List UInt8) := (signP 34 l).bind fun _ r => txtP (r.length + 1) [] r
/-- behind an element: a comma and blanks, or the end -/
def moreP (c : UInt8) (l : List UInt8) : Res Bool := match skipW l with
  | [] => .bad [] 10
  | b :: r => if b = 44 then .ok true (skipW r) else if b = c then .ok false r else .bad (b :: r) 10
def txtV (l : List UInt8) : V := .mk 3 0 (stB l) [] []
mutual
/-- a value; the first number bounds the steps -/
def valP : Nat → List UInt8 → Res V
  | 0, l => .bad l 10
  | _ + 1, [] => .bad [] 10
  | f + 1, c :: r =>
    if c = 110 then (wordP [110, 117, 108, 108] (c :: r)).bind fun _ q => .ok V0 q
    else if c = 116 then (wordP [116, 114, 117, 101] (c :: r)).bind fun _ q => .ok (.mk 1 1 ByteArray.empty [] []) q
    else if c = 102 then (wordP [102, 97, 108, 115, 101] (c :: r)).bind fun _ q => .ok (.mk 1 0 ByteArray.empty [] []) q
    else if c = 34 then (textP (c :: r)).bind fun t q => .ok (txtV t) q
    else if c = 91 then (match skipW r with
      | [] => (elsP f [] []).bind fun is q => .ok (.mk 4 0 ByteArray.empty is []) q
      | b :: q => if b = 93 then .ok (.mk 4 0 ByteArray.empty [] []) q else (elsP f [] (b :: q)).bind fun is t => .ok (.mk 4 0 ByteArray.empty is []) t)
    else if c = 123 then (match skipW r with
      | [] => (fldP f [] []).bind fun fs q => .ok (obj (putAll [] fs)) q
      | b :: q => if b = 125 then .ok (obj []) q else (fldP f [] (b :: q)).bind fun fs t => .ok (obj (putAll [] fs)) t)
    else if c = 45 ∨ digB c = true then (numP (c :: r)).bind fun n q => .ok (.mk 2 n ByteArray.empty [] []) q
    else .bad (c :: r) 10
/-- elements, from a value on -/
def elsP : Nat → List V → List UInt8 → Res (List V)
  | 0, _, l => .bad l 10
  | f + 1, acc, l => match valP f l with
    | .bad q e => .bad q e
    | .ok x q => match moreP 93 q with
      | .bad t e => .bad t e
      | .ok true t => elsP f (acc ++ [x]) t
      | .ok false t => .ok (acc ++ [x]) t
/-- fields, from a name on -/
def fldP : Nat → List F → List UInt8 → Res (List F)
  | 0, _, l => .bad l 10
  | f + 1, acc, l => match textP l with
    | .bad q e => .bad q e
    | .ok nm q => if (lk acc (stB nm)).isSome = true then .bad l 7 else match signP 58 (skipW q) with
      | .bad t e => .bad t e
      | .ok _ t => match valP f (skipW t) with
        | .bad u e => .bad u e
        | .ok x u => match moreP 125 u with
          | .bad v e => .bad v e
          | .ok true v => fldP f (acc ++ [.mk (stB nm) x]) v
          | .ok false v => .ok (acc ++ [.mk (stB nm) x]) v
end
/-- a whole text -/
def allP (l : List UInt8) : Res V := (valP (2 * l.length + 2) (skipW l)).bind fun x r => match skipW r with
  | [] => .ok x []
  | c :: q => .bad (c :: q) 10
/-- what Read answers: a value, a place, an error -/
def readF (l : List UInt8) : V × Int × Int := if 20000 < l.length then (V0, 0, 2) else match allP l with
  | .bad r e => (V0, ((l.length - r.length : Nat) : Int), e)
  | .ok x _ => if chkF x ≠ 0 then (V0, 0, chkF x) else (x, 0, 0)
end Fd
end Go.Proofs.YtbhcfmdogdaodaaGreatDoor
namespace Go.Proofs.YtbhcfmdogdaodaaGreatDoor
open Go.RowKit
namespace Fd
open _root_.Go.Proofs.YtbhcfmdogdaodaaGreatDoor.Rw (All2 All2.length All2.get All2.mono sl_blocks fl_at)
mutual
theorem RepV.blocks {w w' : World} (hb : ∀ q, q < w.heap.size → w'.heap[q]? = w.heap[q]?) : ∀ {x : V} {cs : List Value}, RepV w x cs → RepV w' x cs
  | .mk k n s is fs, cs, h => by
    simp only [RepV] at h ⊢
    obtain ⟨vi, vf, ics, fcs, h0, h1, h2, h3, h4, h5, h6, h7⟩ := h
    exact ⟨vi, vf, ics, fcs, h0, h1, h2, h3, sl_blocks h4 hb, RepL.blocks hb h5, sl_blocks h6 hb, RepFs.blocks hb h7⟩
theorem RepL.blocks {w w' : World} (hb : ∀ q, q < w.heap.size → w'.heap[q]? = w.heap[q]?) : ∀ {x : List V} {cs : List Value}, RepL w x cs → RepL w' x cs
  | [], cs, h => by simpa only [RepL] using h
  | x :: xs, cs, h => by
    simp only [RepL] at h ⊢
    obtain ⟨c, r, h0, h1, h2⟩ := h
    exact ⟨c, r, h0, RepV.blocks hb h1, RepL.blocks hb h2⟩
theorem RepF.blocks {w w' : World} (hb : ∀ q, q < w.heap.size → w'.heap[q]? = w.heap[q]?) : ∀ {x : F} {cs : List Value}, RepF w x cs → RepF w' x cs
  | .mk a x, cs, h => by
    simp only [RepF] at h ⊢
    obtain ⟨c, h0, h1, h2⟩ := h
    exact ⟨c, h0, h1, RepV.blocks hb h2⟩
theorem RepFs.blocks {w w' : World} (hb : ∀ q, q < w.heap.size → w'.heap[q]? = w.heap[q]?) : ∀ {x : List F} {cs : List Value}, RepFs w x cs → RepFs w' x cs
  | [], cs, h => by simpa only [RepFs] using h
  | x :: xs, cs, h => by
    simp only [RepFs] at h ⊢
    obtain ⟨c, r, h0, h1, h2⟩ := h
    exact ⟨c, r, h0, RepF.blocks hb h1, RepFs.blocks hb h2⟩
end
/-- it holds as long as the blocks that D names stay -/
def On (D : Nat → Prop) (P : World → Prop) (w : World) : Prop := ∀ Z, (∀ q, q < w.heap.size → D q → Z.heap[q]? = w.heap[q]?) → P Z
section
variable {D D' : Nat → Prop} {P : World → Prop} {w w' : World}
theorem On.now (h : On D P w) : P w := h w (fun _ _ _ => rfl)
theorem On.mono (h : On D P w) (hD : ∀ q, q < w.heap.size → D q → D' q) : On D' P w := fun Z hZ => h Z (fun q h1 h2 => hZ q h1 (hD q h1 h2))
theorem On.keep (h : On D P w) (hs : w.heap.size ≤ w'.heap.size) (hk : ∀ q, q < w.heap.size → D q → w'.heap[q]? = w.heap[q]?) : On D P w' := fun Z hZ => h Z (fun q h1 h2 => (hZ q (by omega) h2).trans (hk q h1 h2))
theorem On.below (h : On D P w) (hb : Below w.heap.size w w') : On D P w' := h.keep hb.size (fun q h1 _ => hb.block q h1)
theorem On.map {P' : World → Prop} (h : On D P w) (f : ∀ Z, P Z → P' Z) : On D P' w := fun Z hZ => f Z (h Z hZ)
end
theorem RepV.on {w : World} {x : V} {c : List Value} (h : RepV w x c) : On (fun _ => True) (fun Z => RepV Z x c) w := fun _ hZ => RepV.blocks (fun q hq => hZ q hq trivial) h
/-- fields one by one, each on the same blocks -/
theorem on_all {D : Nat → Prop} {w : World} {fs : List F} {E : List (List Value)} (h : On D (fun Z => All2 (RepF Z) fs E) w) : All2 (fun f c => On D (fun Z => RepF Z f c) w) fs E := by
  induction fs generalizing E with
  | nil => cases E with
    | nil => trivial
    | cons c r => exact h.now.elim
  | cons f l ih => cases E with
    | nil => exact h.now.elim
    | cons c r => exact ⟨h.map (fun _ h => h.1), ih (h.map (fun _ h => h.2))⟩
theorem all_on {D : Nat → Prop} {w : World} : ∀ {fs : List F} {E : List (List Value)}, All2 (fun f c => On D (fun Z => RepF Z f c) w) fs E → On D (fun Z => All2 (RepF Z) fs E) w
  | [], [], _ => fun _ _ => trivial
  | _ :: _, _ :: _, h => fun Z hZ => ⟨h.1 Z hZ, all_on h.2 Z hZ⟩
  | [], _ :: _, h => h.elim
  | _ :: _, [], h => h.elim
theorem on_field {D : Nat → Prop} {w : World} {nm : ByteArray} {y : V} {c : List Value} (h : On D (fun Z => RepV Z y c) w) (hn : nm.size ≤ maxLen) : On D (fun Z => RepF Z (.mk nm y) (.string nm :: c)) w := h.map (fun Z h => by
  simp only [RepF]; exact ⟨c, rfl, hn, h⟩)
end Fd
end Go.Proofs.YtbhcfmdogdaodaaGreatDoor
namespace Go.Proofs.YtbhcfmdogdaodaaGreatDoor
open Go.RowKit
namespace Fd
open _root_.Go.Proofs.YtbhcfmdogdaodaaGreatDoor.Nm
open _root_.Go.Proofs.YtbhcfmdogdaodaaGreatDoor.Nt (RH RH.cell RH.box RH.lt RH.new RH.ext RH.fre RH.set RH.other)
/-- a reader: the text, the place, the first error and its place -/
def RD (w : World) (rb : Nat) (s : ByteArray) (at_ : Nat) (e i : Int) : Prop := RH w rb #[.string s, .int .i64 (at_ : Int), .int .i64 e, .int .i64 i] 33
/-- the byte at a place, or 0 -/
def pk (s : ByteArray) (k : Nat) : Int := ((s.data.toList[k]?.getD 0).toNat : Int)
def dr (s : ByteArray) (k : Nat) : List UInt8 := s.data.toList.drop k
section
variable {w w' : World} {rb at_ : Nat} {s : ByteArray} {e i : Int}
theorem RD.c (h : RD w rb s at_ e i) : w.cell? ⟨rb, 0, none⟩ = some (.string s) ∧ w.cell? ⟨rb, 1, none⟩ = some (.int .i64 (at_ : Int)) ∧ w.cell? ⟨rb, 2, none⟩ = some (.int .i64 e) ∧ w.cell? ⟨rb, 3, none⟩ = some (.int .i64 i) := ⟨h.cell 0, h.cell 1, h.cell 2, h.cell 3⟩
theorem RD.z (h : RD w rb s at_ e i) (j : Nat) : w.frozen? ⟨rb, j, none⟩ = false := h.fre j
theorem RD.ext (h : RD w rb s at_ e i) (hb : Below w.heap.size w w') : RD w' rb s at_ e i := RH.ext h hb
theorem RD.grown (h : RD w rb s at_ e i) {r : Option Nat} (hg : w.grownBy w' r) (hr : some rb ≠ r) : RD w' rb s at_ e i := Rw.rh_grown h hg hr
theorem RD.next (h : RD w rb s at_ e i) (k : Nat) : RD (w.setCell ⟨rb, 1, none⟩ (.int .i64 (k : Int))) rb s k e i := RH.set h 1 _
theorem RD.err (h : RD w rb s at_ e i) (p er : Int) : RD ((w.setCell ⟨rb, 3, none⟩ (.int .i64 p)).setCell ⟨rb, 2, none⟩ (.int .i64 er)) rb s at_ er p := RH.set (RH.set h 3 _) 2 _
theorem gr_refl (w : World) (r : Option Nat) : w.grownBy w r := World.grownBy.refl w r
theorem gr_below (h : Below w.heap.size w w') (r : Option Nat) : w.grownBy w' r := Rw.grown_of h r
theorem gr_set (w : World) (rb j : Nat) (v : Value) : w.grownBy (w.setCell ⟨rb, j, none⟩ v) (some rb) := ⟨rfl, rfl, rfl, by simp, fun k _ hk => heap_setCell_other w ⟨rb, j, none⟩ k v (fun e => hk (by simp [e]))⟩
end
theorem pk_lt {s : ByteArray} {k : Nat} (h : k < s.size) : pk s k = (s[k].toNat : Int) := by
  unfold pk
  have h1 : k < s.data.toList.length := by rw [← Lib.size_eq]; exact h
  rw [List.getElem?_eq_getElem h1]; rfl
theorem pk_ge {s : ByteArray} {k : Nat} (h : s.size ≤ k) : pk s k = 0 := by
  unfold pk
  rw [List.getElem?_eq_none (by rw [← Lib.size_eq]; exact h)]; rfl
theorem pk_bd (s : ByteArray) (k : Nat) : 0 ≤ pk s k ∧ pk s k ≤ 255 := by
  unfold pk
  have := (s.data.toList[k]?.getD 0).toNat_lt
  omega
theorem dr_lt {s : ByteArray} {k : Nat} (h : k < s.size) : dr s k = s[k] :: dr s (k + 1) := by
  have h1 : k < s.data.toList.length := by rw [← Lib.size_eq]; exact h
  exact List.drop_eq_getElem_cons h1
theorem dr_ge {s : ByteArray} {k : Nat} (h : s.size ≤ k) : dr s k = [] := List.drop_eq_nil_of_le (by rw [← Lib.size_eq]; exact h)
theorem dr_len {s : ByteArray} {k : Nat} (_h : k ≤ s.size) : (dr s k).length = s.size - k := by unfold dr; rw [List.length_drop, ← Lib.size_eq]
set_option maxRecDepth 100000 in
set_option maxHeartbeats 8000000 in
theorem fail_ok (rb : Nat) (s : ByteArray) (a p : Nat) (er i : Int) (w : World) (h : RD w rb s a 0 i) (hs : s.size ≤ 1000000) (hp : p ≤ s.size) (_hw : er = IntKind.i64.wrap er) : Calls Tryz.prog 9 #[.pointer (some ⟨rb, 0, none⟩), .int .i64 (p : Int), .int .i64 er] w fun e w' => e = .returned (.tuple #[]) ∧ RD w' rb s a er (p : Int) ∧ w.grownBy w' (some rb) := by
  obtain ⟨c0, c1, c2, c3⟩ := h.c
  have z2 := h.z 2
  have z3 := h.z 3
  have hs1 : (s.size : Int) ≤ 1000000 := by omega
  have hp1 : (p : Int) ≤ (s.size : Int) := by omega
  have HR := Lib.hid h
  have hmn : min (p : Int) (s.size : Int) = (p : Int) := by omega
  have HF : Hid (RD ((w.setCell ⟨rb, 3, none⟩ (.int .i64 (p : Int))).setCell ⟨rb, 2, none⟩ (.int .i64 er)) rb s a er (p : Int) ∧ w.grownBy ((w.setCell ⟨rb, 3, none⟩ (.int .i64 (p : Int))).setCell ⟨rb, 2, none⟩ (.int .i64 er)) (some rb)) := Lib.hid ⟨h.err _ _, (gr_set _ _ _ _).trans (gr_set _ _ _ _)⟩
  clear h hs hp _hw
  go_enter Tryz.func9, Tryz.ntmps9
  go_wp2
  go_end0
  exact ⟨rfl, HF.out⟩
set_option maxRecDepth 100000 in
set_option maxHeartbeats 8000000 in
theorem fail_no (rb : Nat) (s : ByteArray) (a : Nat) (p er e0 i : Int) (w : World) (h : RD w rb s a e0 i) (he : e0 ≠ 0) : Calls Tryz.prog 9 #[.pointer (some ⟨rb, 0, none⟩), .int .i64 p, .int .i64 er] w fun e w' => e = .returned (.tuple #[]) ∧ w' = w := by
  obtain ⟨c0, c1, c2, c3⟩ := h.c
  have heb : (e0 == 0) = false := by simpa using he
  clear h he
  go_enter Tryz.func9, Tryz.ntmps9
  go_wp2
  go_end0
  exact ⟨rfl, rfl⟩
set_option maxRecDepth 100000 in
set_option maxHeartbeats 8000000 in
theorem peek_at (rb : Nat) (s : ByteArray) (a : Nat) (e0 i : Int) (w : World) (h : RD w rb s a e0 i) (hs : s.size ≤ 1000000) : Calls Tryz.prog 17 #[.pointer (some ⟨rb, 0, none⟩)] w fun e w' => e = .returned (.int .u8 (pk s a)) ∧ Below w.heap.size w w' := by
  obtain ⟨c0, c1, c2, c3⟩ := h.c
  clear h
  have hs1 : (s.size : Int) ≤ 1000000 := by omega
  have h0 : (0 : Int) ≤ (a : Int) := Int.natCast_nonneg _
  go_enter Tryz.func17, Tryz.ntmps17
  by_cases hlt : a < s.size
  · have hli : (a : Int) < (s.size : Int) := by omega
    have HP := Lib.hid (pk_lt hlt)
    go_upto_region 1 with (fail)
    go_quiet (fail)
    go_upto_region 2 with (fail)
    go_quiet (fail)
    go_wp2
    go_ret
    exact ⟨by rw [HP.out]; rfl, below_drewN (below_drewN (Below.refl _ _) _) _⟩
  · have hli : ¬ (a : Int) < (s.size : Int) := by omega
    have HP := Lib.hid (pk_ge (s := s) (k := a) (by omega))
    go_upto_region 1 with (fail)
    go_quiet (fail)
    go_wp2
    go_ret
    exact ⟨by rw [HP.out]; rfl, below_drewN (Below.refl _ _) _⟩
end Fd
end Go.Proofs.YtbhcfmdogdaodaaGreatDoor
