/- A region that draws its order: operations that only read, and a chain of stores that may come up between them. Each operation is walked once. No program stands in it. A region that draws its order: operations that only read, a chain of stores that may come up between them, and a tail that waits for all of these. Printed by gen_growt.py. No program stands in it. -/
import Derived.Test.YtbhcfmdogdaodaaGreatDoorRz14
namespace Go.Proofs.YtbhcfmdogdaodaaGreatDoor
open Go.RowKit
namespace Grow
section
variable {P : Program}
def vOf (Vs : List (Value → Prop)) (j : Nat) : Value → Prop := Vs.getD j fun _ => True
/-- what an operation waits for is there -/
def NeedV (ops : Array Oper) (Vs : List (Value → Prop)) (K : Act → Prop) : List Nat → Act → Prop
  | [], a => K a
  | j :: js, a => ∀ v, vOf Vs j v → NeedV ops Vs K js (a.put (dstOf ops j) v)
theorem NeedV.at {ops : Array Oper} {Vs : List (Value → Prop)} {K : Act → Prop} {vs : Nat → Value} : ∀ (D : List Nat) (a : Act), NeedV ops Vs K D a → (∀ j ∈ D, vOf Vs j (vs j)) → K (putD ops vs D a)
  | [], _, h, _ => h
  | j :: js, _, h, hv => NeedV.at js _ (h (vs j) (hv j (by simp))) (fun i hi => hv i (by simp [hi]))
/-- what is asked of one operation's walk: the world behind it is w1 -/
def PostV (o : Oper) (V : Value → Prop) (w1 : World) (ds : List Deferred) : Exit → Act → World → Prop
  | .normal, a', w' => (match o.dst with | some d => V (a'.eval (.tmp d)) | none => True) ∧ w' = w1 ∧ a'.defers = ds
  | _, _, _ => False
/-- operation i is store number j (some j) or reads (none); Xs: the worlds behind 0, 1 .. stores; C: what the reads ask of them -/
def HeadV (P : Program) (ops : Array Oper) (Vs : List (Value → Prop)) (Xs : List World) (w0 : World) (C : World → Prop) (a0 : Act) (D : List (List Nat)) : List Oper → List (Option Nat) → Nat → Prop
  | o :: l, none :: ks, i => (∀ w', C w' → NeedV ops Vs (fun a => wpList P ops (PostV o (vOf Vs i) w' a0.defers) [o] a w') (D.getD i []) a0) ∧ HeadV P ops Vs Xs w0 C a0 D l ks (i + 1)
  | o :: l, some j :: ks, i => NeedV ops Vs (fun a => wpList P ops (PostV o (vOf Vs i) (Xs.getD (j + 1) w0) a0.defers) [o] a (Xs.getD j w0)) (D.getD i []) a0 ∧ HeadV P ops Vs Xs w0 C a0 D l ks (i + 1)
  | _, _, _ => True
theorem HeadV.get {ops : Array Oper} {Vs : List (Value → Prop)} {Xs : List World} {w0 : World} {C : World → Prop} {a0 : Act} {D : List (List Nat)} : ∀ (l : List Oper) (ks : List (Option Nat)) (k : Nat), HeadV P ops Vs Xs w0 C a0 D l ks k → ∀ i o x, l[i]? = some o → ks[i]? = some x →
    (match x with
      | none => ∀ w', C w' → NeedV ops Vs (fun a => wpList P ops (PostV o (vOf Vs (k + i)) w' a0.defers) [o] a w') (D.getD (k + i) []) a0
      | some j => NeedV ops Vs (fun a => wpList P ops (PostV o (vOf Vs (k + i)) (Xs.getD (j + 1) w0) a0.defers) [o] a (Xs.getD j w0)) (D.getD (k + i) []) a0)
  | [], _, _, _, _, _, _, ho, _ => by simp at ho
  | _ :: _, [], _, _, _, _, _, _, hx => by simp at hx
  | o :: l, none :: ks, k, h, 0, _, _, ho, hx => by
    simp at ho hx; subst ho; subst hx; exact h.1
  | o :: l, some j :: ks, k, h, 0, _, _, ho, hx => by
    simp at ho hx; subst ho; subst hx; exact h.1
  | o :: l, none :: ks, k, h, i + 1, o', x, ho, hx => by
    have := HeadV.get l ks (k + 1) h.2 i o' x (by simpa using ho) (by simpa using hx)
    rw [show k + (i + 1) = k + 1 + i by omega]; exact this
  | o :: l, some j :: ks, k, h, i + 1, o', x, ho, hx => by
    have := HeadV.get l ks (k + 1) h.2 i o' x (by simpa using ho) (by simpa using hx)
    rw [show k + (i + 1) = k + 1 + i by omega]; exact this
def TailV (Vs : List (Value → Prop)) (K : Act → Prop) : List Oper → Nat → Act → Prop
  | [], _, a => K a
  | o :: l, i, a => ∀ v, (o.dst.isSome = true → vOf Vs i v) → TailV Vs K l (i + 1) (a.put o.dst v)
theorem TailV.at {Vs : List (Value → Prop)} {K : Act → Prop} {vs : Nat → Value} : ∀ (l : List Oper) (i : Nat) (a : Act), TailV Vs K l i a → (∀ j o, l[j]? = some o → o.dst.isSome = true → vOf Vs (i + j) (vs (i + j))) → K (foldPut vs l i a)
  | [], _, _, h, _ => h
  | o :: l, i, a, h, hv => TailV.at l (i + 1) _ (h (vs i) (fun hs => by simpa using hv 0 o rfl hs)) (fun j o' hj hs => by have := hv (j + 1) o' (by simpa using hj) hs; rwa [show i + (j + 1) = i + 1 + j by omega] at this)
theorem TailV.fin {Vs : List (Value → Prop)} {Q : Exit → Act → World → Prop} {w0 : World} {Xs : List World} {m i : Nat} {a : Act} (wm : World) (hw : Xs.getD m w0 = wm) (h : Q .normal a wm) : TailV Vs (fun a => Q .normal a (Xs.getD m w0)) [] i a := by
  subst hw; exact h
/-- the region fits -/
def looksV (ops : Array Oper) (n : Nat) (D : List (List Nat)) : Bool := (List.range n).all fun i => match ops[i]? with
  | none => false
  | some o => (match o.guard with | none => true | some (g, _) => (D.getD i []).contains g) && (o.after.all fun e => !Region.binds .any e || decide (e.on < i)) && ((D.getD i []).all fun j => decide (j < n) && Region.waitsFor .any ops i j && (dstOf ops j).isSome) &&
      (o.op.operands.all fun x => match x with | .tmp t => (List.range n).all fun j => dstOf ops j != some t || (D.getD i []).contains j | _ => true)
structure LookV (ops : Array Oper) (n : Nat) (D : List (List Nat)) (i : Nat) (o : Oper) : Prop where
  guard : ∀ g b, o.guard = some (g, b) → g ∈ D.getD i []
  after : ∀ e ∈ o.after, Region.binds .any e = true → e.on < i
  deps : ∀ j ∈ D.getD i [], (j < n ∧ Region.waitsFor .any ops i j = true) ∧ (dstOf ops j).isSome = true
  ops : ∀ t, Operand.tmp t ∈ o.op.operands → ∀ j, j < n → dstOf ops j = some t → j ∈ D.getD i []
theorem looksV_spec {ops : Array Oper} {n : Nat} {D : List (List Nat)} (h : looksV ops n D = true) {i : Nat} (hi : i < n) : ∃ o, ops[i]? = some o ∧ LookV ops n D i o := by
  have h1 := List.all_eq_true.1 h i (List.mem_range.2 hi)
  cases ho : ops[i]? with
  | none => rw [ho] at h1; cases h1
  | some o =>
    rw [ho] at h1
    simp only [Bool.and_eq_true] at h1
    obtain ⟨⟨⟨g1, g2⟩, g3⟩, g4⟩ := h1
    refine ⟨o, rfl, fun g b hgb => (by rw [hgb] at g1; exact List.contains_iff_mem.1 g1), fun e he hbi => ?_, fun j hj => ?_, fun t ht j hj hd => ?_⟩
    · have := Array.all_eq_true_iff_forall_mem.1 g2 e he; rw [hbi] at this; simpa using this
    · have := List.all_eq_true.1 g3 j hj; simpa using this
    · have h2 := Array.all_eq_true_iff_forall_mem.1 g4 _ ht
      have h3 := List.all_eq_true.1 h2 j (List.mem_range.2 hj)
      simp only [hd, bne_self_eq_false, Bool.false_or, List.contains_iff_mem] at h3
      exact h3
theorem readyV_some {ops : Array Oper} {n : Nat} {D : List (List Nat)} {listed : Array Bool} (hl : looksV ops n D = true) (hs : listed.size = ops.size) : ∀ i, i < n → listed.getD i true = false → Region.ready .any ops listed ≠ [] := by
  intro i
  induction i using Nat.strongRecOn with
  | _ i ih =>
    intro hi hun h0
    obtain ⟨o, ho, hk⟩ := looksV_spec hl hi
    by_cases hall : ∀ e ∈ o.after, Region.binds .any e = true → listed.getD e.on false = true
    · have : i ∈ Region.ready .any ops listed := mem_ready.2 ⟨hun, o, ho, hall⟩
      rw [h0] at this; cases this
    · obtain ⟨e, hall⟩ := Classical.not_forall.1 hall
      obtain ⟨he, hall⟩ := Classical.not_imp.1 hall
      obtain ⟨hb, hall⟩ := Classical.not_imp.1 hall
      have hlt := hk.after e he hb
      have hio := (Array.getElem?_eq_some_iff.1 ho).1
      have hf : listed.getD e.on false = false := by simpa using hall
      exact ih e.on hlt (by omega) (getD_in (by omega) hf) h0
theorem wpOp_of_oneV {ops : Array Oper} {i : Nat} {o : Oper} {V : Value → Prop} {Q : Exit → Act → World → Prop} {K : Act → World → Prop} {a a1 : Act} {w w1 : World} (ho : ops[i]? = some o) (hg : Region.wanted o (yielded ops a.tmps) = Region.wanted o (yielded ops a1.tmps)) (hsel : ∀ cs b, o.op ≠ .select cs b)
    (he : ∀ x ∈ o.op.operands, a.eval x = a1.eval x) (hsz : a.tmps.size = a1.tmps.size) (h : wpList P ops (PostV o V w1 a1.defers) [o] a1 w)
    (hK : ∀ v, (∀ d, o.dst = some d → V (if d < a.tmps.size then v else undef)) → K (a.put o.dst v) w1) : wpOp P ops Q i K a w := by
  have fin : ∀ v w', PostV o V w1 a1.defers .normal (a1.put o.dst v) w' → K (a.put o.dst v) w' := fun v w' hp => by
    have h2 := hp.2.1
    subst h2
    refine hK v (fun d hd => ?_)
    have h1 := hp.1
    rw [hd] at h1
    simp only [eval_put_same] at h1
    rw [hsz]; exact h1
  unfold wpOp
  simp only [ho, hg]
  unfold wpList at h
  by_cases hwd : Region.wanted o (yielded ops a1.tmps) = true
  · rw [if_pos hwd] at h ⊢
    left
    have h0 : o.wp P a1 w (PostV o V w1 a1.defers .normal) (PostV o V w1 a1.defers) := by
      rcases h with h | ⟨_, _, _, h⟩
      · exact h
      · exact h.elim
    unfold Oper.wp at h0 ⊢
    rw [execOp_congr o hsel he]
    generalize (execOp a1.eval o).run P w = r at *
    cases r with
    | ok n w' =>
      cases n <;> simp only [Oper.upon] at h0 ⊢
      case value v => exact fin v w' h0
      case skip => exact fin _ w' h0
      case defer d =>
        exfalso
        have h2 := h0.2.2
        rw [put_defers] at h2
        have := congrArg List.length h2
        simp at this
      case enter f args =>
        refine Calls.mono h0 fun e w'' he' => ?_
        cases e with
        | returned v => exact fin v w'' he'
        | panicked c => exact he'.elim
        | outgrown => obtain ⟨_, _, hx⟩ := he'; exact hx.elim
      case row row args => exact Rows.mono h0 fun v w'' he' => fin v w'' he'
    | halt x w' => cases x <;> simp only [Oper.upon] at h0 ⊢ <;> exact h0.elim
  · rw [if_neg hwd] at h ⊢
    unfold wpList at h
    exact fin undef w h
end
end Grow
end Go.Proofs.YtbhcfmdogdaodaaGreatDoor
namespace Go.Proofs.YtbhcfmdogdaodaaGreatDoor
open Go.RowKit
namespace Grow
section
variable {P : Program}
def storTB (ops : Array Oper) (n m : Nat) (D : List (List Nat)) (ks : List (Option Nat)) : Bool :=
  Region.noSelect ops && decide (n ≤ ops.size) && ((List.range ops.size).all fun i => decide (i < n) || (List.range n).all fun j => Region.waitsFor .any ops i j) && decide (ks.length = n) && dists ops n && looksV ops n D &&
  ((List.range n).all fun i => match ks.getD i none with | none => true | some 0 => decide (0 < m) | some (j + 1) => decide (j + 1 < m) && (List.range n).any fun i' => ks.getD i' none == some j && Region.waitsFor .any ops i i') &&
  ((List.range n).all fun i => (List.range n).all fun i' => i == i' || ks.getD i none == none || ks.getD i none != ks.getD i' none) &&
  (m == 0 || (List.range n).any fun i => ks.getD i none == some (m - 1)) && Region.seqB .any ops (ops.size - n) n ((List.range ops.size).map fun i => decide (i < n)).toArray
/-- THE LAW. The first n of l read, and store one behind the other (ks: which operation is which store; Xs: the worlds behind 0, 1 .. of them); each operation is walked once. -/
theorem wp_region_storest {id : Nat} {Q : Exit → Act → World → Prop} {a0 : Act} {w : World} {l : List Oper} (n m : Nat) (Xs : List World) (C : World → Prop) (Vs : List (Value → Prop)) (D : List (List Nat)) (ks : List (Option Nat)) (hm : P.follows .mixedOrders = true) (hB : storTB l.toArray n m D ks = true)
    (hX0 : Xs.getD 0 w = { w with drawn := w.drawn + 1 }) (hC : ∀ k, k ≤ m → C (Xs.getD k w))
    (hops : HeadV P l.toArray Vs Xs w C a0 D (l.take n) ks 0)
    (htail : TailV Vs (fun a => wpList P l.toArray Q (l.drop n) a (Xs.getD m w)) (l.take n) 0 a0) : (Code.region id l.toArray true).wp P Q a0 w := by
  simp only [storTB, Bool.and_eq_true, decide_eq_true_eq] at hB
  obtain ⟨⟨⟨⟨⟨⟨⟨⟨⟨hsel, hn⟩, hwall⟩, hkl⟩, hdist⟩, hlook⟩, hchain⟩, hinj⟩, hlast⟩, hseq⟩ := hB
  have hD := dists_spec hdist
  have hnl : n ≤ l.length := by simpa using hn
  have key : ∀ f (listed : Array Bool) (a : Act) (k : Nat) (vs : Nat → Value), cnt listed n = f → HeadInv .any l.toArray n listed → a = putN l.toArray (fun j => listed.getD j false) vs a0 n →
      (∀ j, j < n → listed.getD j false = true → (dstOf l.toArray j).isSome = true → vOf Vs j (vs j)) → k ≤ m → (∀ i j, i < n → ks.getD i none = some j → (listed.getD i false = true ↔ j < k)) → wpAny P .any l.toArray Q (f + (l.toArray.size - n)) listed a (Xs.getD k w) := by
    intro f
    induction f with
    | zero =>
      intro listed a k vs hc inv ha hv hkm hks
      have hall : ∀ i, i < n → listed.getD i false = true := fun i hi => by
        have h1 := cnt_zero n hc i hi
        have hlt : i < listed.size := by rw [inv.size]; omega
        simp [hlt] at h1 ⊢; exact h1
      have hkm2 : k = m := by
        rcases Bool.or_eq_true_iff.1 hlast with h | h
        · have : m = 0 := by simpa using h
          omega
        · obtain ⟨i, hi, h2⟩ := List.any_eq_true.1 h
          have hi' := List.mem_range.1 hi
          have := (hks i (m - 1) hi' (by simpa using h2)).1 (hall i hi')
          omega
      subst hkm2
      have hls : listed = ((List.range l.toArray.size).map fun i => decide (i < n)).toArray := by
        refine Array.ext (by simp [inv.size]) (fun i h1 h2 => ?_)
        simp only [List.getElem_toArray, List.getElem_map, List.getElem_range]
        by_cases hin : i < n
        · have := hall i hin
          simp only [hin, decide_true]
          simpa [h1] using this
        · have := inv.tail i (by omega) (by rw [← inv.size]; exact h1)
          simp only [hin, decide_false]
          simpa [h1] using this
      have ht := TailV.at (vs := vs) _ _ _ htail (fun j o hj hs => by
        rw [Nat.zero_add]
        have hjl := (List.getElem?_eq_some_iff.1 hj).1
        rw [List.length_take] at hjl
        have hj' : j < n := by omega
        rw [List.getElem?_take_of_lt hj'] at hj
        exact hv j hj' (hall j hj') (by unfold dstOf; simp only [List.getElem?_toArray, hj, Option.bind_some]; exact hs))
      have hfold := fold_putN (L := fun j => listed.getD j false) (vs := vs) (a := a0) (l := l) n (by omega) hall
      rw [hfold, ← ha] at ht
      have := wpAny_of_seq (P := P) (ops := l.toArray) (md := .any) (Q' := Q) (l.drop n) n listed a (Xs.getD k w) (fun j => by simp [List.getElem?_drop]) (by rw [hls]; simpa using hseq) ht
      simpa using this
    | succ f ih =>
      intro listed a k vs hc inv ha hv hkm hks
      obtain ⟨i0, hi0, hun0⟩ := cnt_pos n (by omega : cnt listed n ≠ 0)
      rw [show f + 1 + (l.toArray.size - n) = (f + (l.toArray.size - n)) + 1 by omega]
      refine ⟨fun h0 => absurd h0 (readyV_some hlook inv.size i0 hi0 hun0), fun i hi => ?_⟩
      obtain ⟨hun, oi, hoi, hall⟩ := mem_ready.1 hi
      have hilt := (Array.getElem?_eq_some_iff.1 hoi).1
      have hin : i < n := by
        refine Classical.byContradiction fun hge => ?_
        have h1 := List.all_eq_true.1 hwall i (List.mem_range.2 hilt)
        have hge' : decide (i < n) = false := decide_eq_false hge
        rw [hge', Bool.false_or] at h1
        have h2 := List.all_eq_true.1 h1 i0 (List.mem_range.2 hi0)
        obtain ⟨oj, h3, e, he, hbd, hon⟩ := Region.waitsFor_spec h2
        have : oj = oi := Option.some.inj (h3.symm.trans hoi)
        subst this
        have h4 := hall e he hbd
        rw [hon, getD_both hun0] at h4
        cases h4
      obtain ⟨o, ho, hk⟩ := looksV_spec hlook hin
      have : oi = o := Option.some.inj (hoi.symm.trans ho)
      subst this
      have hwaits : ∀ j, Region.waitsFor .any l.toArray i j = true → listed.getD j false = true := fun j hj => by
        obtain ⟨oj, h1, e, he, hbd, hon⟩ := Region.waitsFor_spec hj
        have : oj = oi := Option.some.inj (h1.symm.trans hoi)
        subst this
        rw [← hon]; exact hall e he hbd
      have hlist : ∀ j ∈ D.getD i [], listed.getD j false = true := fun j hj => hwaits j (hk.deps j hj).1.2
      have hfalse : listed.getD i false = false := getD_both hun
      -- the number of stores behind this operation
      obtain ⟨k', hkm', hks', hneed⟩ : ∃ k', k' ≤ m ∧ (∀ i2 j2, i2 < n → ks.getD i2 none = some j2 → (((listed.setIfInBounds i true).getD i2 false = true) ↔ j2 < k')) ∧ NeedV l.toArray Vs (fun a => wpList P l.toArray (PostV oi (vOf Vs i) (Xs.getD k' w) a0.defers) [oi] a (Xs.getD k w)) (D.getD i []) a0 := by
        have hgetset : ∀ i2, (listed.setIfInBounds i true).getD i2 false = if i2 = i then true else listed.getD i2 false := fun i2 => by
          by_cases h : i2 = i
          · subst h
            have hlt : i2 < listed.size := by rw [inv.size]; exact hilt
            simp [hlt]
          · rw [getD_set_ne false (fun e => h e.symm), if_neg h]
        have hx : ks[i]? = some (ks.getD i none) := by
          have h1 : i < ks.length := by omega
          rw [List.getD_eq_getElem?_getD, List.getElem?_eq_getElem h1]; rfl
        have hol : (l.take n)[i]? = some oi := by rw [List.getElem?_take_of_lt hin]; simpa using hoi
        have hhead := HeadV.get (l.take n) ks 0 hops i oi _ hol hx
        rw [Nat.zero_add] at hhead
        cases hki : ks.getD i none with
        | none =>
          rw [hki] at hhead
          refine ⟨k, hkm, fun i2 j2 h1 h2 => ?_, hhead _ (hC k hkm)⟩
          rw [hgetset]
          by_cases h : i2 = i
          · subst h; rw [hki] at h2; cases h2
          · rw [if_neg h]; exact hks i2 j2 h1 h2
        | some j =>
          rw [hki] at hhead
          have hnk : ¬ j < k := fun h => by
            have := (hks i j hin hki).2 h
            rw [hfalse] at this; cases this
          have hch := List.all_eq_true.1 hchain i (List.mem_range.2 hin)
          simp only [hki] at hch
          have hjk : j = k ∧ j < m := by
            cases j with
            | zero => exact ⟨by omega, by simpa using hch⟩
            | succ j =>
              simp only [Bool.and_eq_true, decide_eq_true_eq] at hch
              obtain ⟨i', hi', h2⟩ := List.any_eq_true.1 hch.2
              simp only [Bool.and_eq_true, beq_iff_eq] at h2
              have := (hks i' j (List.mem_range.1 hi') h2.1).1 (hwaits i' h2.2)
              exact ⟨by omega, hch.1⟩
          obtain ⟨rfl, hjm⟩ := hjk
          refine ⟨j + 1, by omega, fun i2 j2 h1 h2 => ?_, hhead⟩
          rw [hgetset]
          by_cases h : i2 = i
          · subst h
            rw [hki] at h2
            injection h2 with h2
            simp; omega
          · rw [if_neg h, hks i2 j2 h1 h2]
            have h3 := List.all_eq_true.1 (List.all_eq_true.1 hinj i2 (List.mem_range.2 h1)) i (List.mem_range.2 hin)
            rw [h2, hki] at h3
            have h4 : j2 ≠ j := by
              intro e
              subst e
              simp [h] at h3
            omega
      have hneed2 := NeedV.at (vs := vs) _ _ hneed (fun j hj => hv j (hk.deps j hj).1.1 (hlist j hj) (hk.deps j hj).2)
      have hdef : (putD l.toArray vs (D.getD i []) a0).defers = a0.defers := by
        have : ∀ (Dl : List Nat) (b : Act), (putD l.toArray vs Dl b).defers = b.defers := by
          intro Dl
          induction Dl with
          | nil => intro b; rfl
          | cons j js ihj => intro b; unfold putD; rw [ihj, put_defers]
        exact this _ _
      have hsame : ∀ t j, j ∈ D.getD i [] → dstOf l.toArray j = some t → a.eval (.tmp t) = (putD l.toArray vs (D.getD i []) a0).eval (.tmp t) := fun t j hjD hjt => by
        have hj := (hk.deps j hjD).1.1
        rw [ha, putN_same n hD j hj (hlist j hjD) hjt, putD_same (D.getD i []) a0 hjD hjt (fun k hk' hkj => hD j k t hj (hk.deps k hk').1.1 (fun e => hkj e.symm) hjt)]
      have hwant : Region.wanted oi (yielded l.toArray a.tmps) = Region.wanted oi (yielded l.toArray (putD l.toArray vs (D.getD i []) a0).tmps) := by
        unfold Region.wanted
        cases hgd : oi.guard with
        | none => rfl
        | some gb =>
          obtain ⟨g, b⟩ := gb
          have hgD := hk.guard g b hgd
          have : yielded l.toArray a.tmps g = yielded l.toArray (putD l.toArray vs (D.getD i []) a0).tmps g := by
            unfold yielded
            cases hdg : (l.toArray[g]?).bind (·.dst) with
            | none => rfl
            | some t =>
              simp only [Option.bind_some]
              rw [tmps_eval (by rw [ha, putN_size, putD_size]) (hsame t g hgD hdg)]
          simp only [this]
      refine wpOp_of_oneV (a1 := putD l.toArray vs (D.getD i []) a0) hoi hwant (fun cs b => Region.noSelect_spec hsel i oi cs b hoi) (fun x hx => ?_) (by rw [ha, putN_size, putD_size]) (V := vOf Vs i) (by rw [hdef]; exact hneed2) (fun v hT => ?_)
      · cases x with
        | tmp t =>
          by_cases hex : ∃ j, j < n ∧ dstOf l.toArray j = some t
          · obtain ⟨j, hj, hjt⟩ := hex
            have hjD := hk.ops t hx j hj hjt
            exact hsame t j hjD hjt
          · rw [ha, putN_other n (fun j hj _ e => hex ⟨j, hj, e⟩), putD_other _ _ (fun j hj e => hex ⟨j, (hk.deps j hj).1.1, e⟩)]
        | _ => rfl
      · refine ih (listed.setIfInBounds i true) (a.put oi.dst v) k' (fun j => if j = i then (match oi.dst with | some d => if d < a.tmps.size then v else undef | none => v) else vs j) (by have := cnt_set hun n hin; omega) (inv.set hi hin) ?_ ?_ hkm' hks'
        · have hdo : dstOf l.toArray i = oi.dst := by unfold dstOf; rw [hoi]; rfl
          have hgd : (fun j => (listed.setIfInBounds i true).getD j false) = fun j => listed.getD j false || decide (j = i) := by
            funext j
            by_cases hji : j = i
            · subst hji
              have hlt : j < listed.size := by rw [inv.size]; exact hilt
              simp [hlt]
            · rw [getD_set_ne false (fun e => hji e.symm)]; simp [hji]
          rw [hgd, putN_add _ n hD hin hfalse, ← ha, hdo]
          cases hd : oi.dst with
          | none => rfl
          | some d =>
            by_cases hlt : d < a.tmps.size
            · simp [hlt]
            · simp only [hlt, if_false, Act.put]
              rw [Array.setIfInBounds_eq_of_size_le (Nat.le_of_not_lt hlt), Array.setIfInBounds_eq_of_size_le (Nat.le_of_not_lt hlt)]
        · intro j hj hl hs
          by_cases hji : j = i
          · subst hji
            simp only [if_true]
            have hdo : dstOf l.toArray j = oi.dst := by unfold dstOf; rw [hoi]; rfl
            rw [hdo] at hs
            cases hd : oi.dst with
            | none => rw [hd] at hs; cases hs
            | some d => exact hT d hd
          · simp only [hji, if_false]
            rw [getD_set_ne false (fun e => hji e.symm)] at hl
            exact hv j hj hl hs
  have inv0 : HeadInv .any l.toArray n (Array.replicate l.toArray.size false) :=
    ⟨by simp, fun j oj _ hl => (by rw [getD_replicate_false] at hl; cases hl), fun t _ ht => getD_in (by simpa using ht) (getD_replicate_false _ _)⟩
  refine wp_region_any hm ?_
  have hcnt : ∀ k, k ≤ l.toArray.size → cnt (Array.replicate l.toArray.size false) k = k := by
    intro k
    induction k with
    | zero => intro _; rfl
    | succ k ih =>
      intro hk
      have h1 := ih (by omega)
      have h2 : (Array.replicate l.toArray.size false).getD k true = false := getD_in (by simp at hk ⊢; omega) (getD_replicate_false _ _)
      simp only [cnt, h2, if_true]
      omega
  have := key n _ a0 0 (fun _ => undef) (hcnt n (by omega)) inv0 ?_ (fun j _ hl => by rw [getD_replicate_false] at hl; cases hl) (Nat.zero_le _) (fun i j _ _ => by rw [getD_replicate_false]; simp)
  · rw [hX0] at this
    rwa [show n + (l.toArray.size - n) = l.toArray.size by omega] at this
  · have : ∀ k, putN l.toArray (fun j => (Array.replicate l.toArray.size false).getD j false) (fun _ => undef) a0 k = a0 := by
      intro k
      induction k with
      | zero => rfl
      | succ k ih => rw [putN_succ, getD_replicate_false, ih]; rfl
    exact (this n).symm
end
end Grow
end Go.Proofs.YtbhcfmdogdaodaaGreatDoor
