/- A region that draws its order, of which one operation may float past the store behind the rest. No program stands in it. Printed by gen_growf.py. -/
import Derived.Test.YtlbnjgnbpiidaaaGreatDoorB812
namespace Go.Proofs.YtlbnjgnbpiidaaaGreatDoor
open Go.RowKit
namespace Grow
section
variable {P : Program}
def looksF (ops : Array Oper) (n : Nat) (D : List (List Nat)) (R : List Nat) : Bool := (List.range n).all fun i => match ops[i]? with
 | none => false
 | some o => (match o.guard with | none => true | some (g, _) => (D.getD i []).contains g) && o.dst.isSome && (o.after.all fun e => !Region.binds .any e || decide (e.on < n ∧ R.getD e.on 0 < R.getD i 0)) && ((D.getD i []).all fun j => decide (j < n) && Region.waitsFor .any ops i j) &&
   (o.op.operands.all fun x => match x with | .tmp t => (List.range n).all fun j => dstOf ops j != some t || (D.getD i []).contains j | _ => true)
def headBF (ops : Array Oper) (n : Nat) (D : List (List Nat)) (R : List Nat) : Bool := Region.noSelect ops && decide (n ≤ ops.size) && dists ops n && looksF ops n D R
/-- f is an extract, op n a store that does not wait for it -/
def floatB (ops : Array Oper) (n f : Nat) : Bool :=
 (match ops[f]? with | some o => o.guard.isNone && (match o.op with | .extract (.tmp _) _ => true | _ => false) | none => false) &&
 (match ops[n]? with | some o => o.guard.isNone && o.dst.isNone && (match o.op with | .store _ _ _ => true | _ => false) && (o.op.operands.all fun x => match x with | .tmp t => dstOf ops f != some t | _ => true) | none => false)
def growBF (ops : Array Oper) (n f : Nat) (D : List (List Nat)) (R : List Nat) : Bool :=
 headBF ops n D R && decide (f < n) && decide (n < ops.size) && ((List.range n).all fun i => i == f || Region.waitsFor .any ops n i) && Region.chainB .any ops n && (decide (ops.size = n + 1) || Region.waitsFor .any ops (n + 1) f) && floatB ops n f &&
 Region.seqB .any ops (ops.size - n) n ((List.range ops.size).map fun i => decide (i < n)).toArray
structure FloatOk (ops : Array Oper) (n f : Nat) (of os : Oper) : Prop where
 gf : of.guard = none
 opf : ∃ t k, of.op = .extract (.tmp t) k
 gs : os.guard = none
 ds : os.dst = none
 ops_ : ∃ t x y, os.op = .store t x y
 apart : ∀ t, Operand.tmp t ∈ os.op.operands → dstOf ops f ≠ some t
theorem floatB_spec {ops : Array Oper} {n f : Nat} (h : floatB ops n f = true) : ∃ of os, ops[f]? = some of ∧ ops[n]? = some os ∧ FloatOk ops n f of os := by
 unfold floatB at h
 rw [Bool.and_eq_true] at h
 obtain ⟨h1, h2⟩ := h
 cases hf : ops[f]? with
 | none => rw [hf] at h1; cases h1
 | some of =>
  cases hs : ops[n]? with
  | none => rw [hs] at h2; cases h2
  | some os =>
   rw [hf] at h1; rw [hs] at h2
   simp only [Bool.and_eq_true, Option.isNone_iff_eq_none] at h1 h2
   obtain ⟨g1, g2⟩ := h1
   obtain ⟨⟨⟨k1, k2⟩, k3⟩, k4⟩ := h2
   refine ⟨of, os, rfl, rfl, g1, ?_, k1, k2, ?_, fun t ht he => ?_⟩
   ·split at g2
    ·next t k e => exact ⟨t, k, e⟩
    ·cases g2
   ·split at k3
    ·next t x y e => exact ⟨t, x, y, e⟩
    ·cases k3
   ·have h3 := Array.all_eq_true_iff_forall_mem.1 k4 _ ht
    simp only [he, bne_self_eq_false, Bool.false_eq_true] at h3
theorem extract_pure {ρ : Operand → Value} {o : Oper} {t : Tmp} {k : Nat} (h : o.op = .extract (.tmp t) k) (w0 : World) : (∃ v, ∀ (P : Program) w, (execOp ρ o).run P w = .ok (.value v) w) ∨ ∃ x w1, ∀ (P : Program), (execOp ρ o).run P w0 = .halt (.stuck x) w1 := by
 unfold execOp
 rw [h]
 simp only [Instr.extract]
 split
 ·split
  ·next v _ => exact .inl ⟨v, fun P w => rfl⟩
  ·exact .inr ⟨ "Extract: no such component", w0, fun P => by simp⟩
 ·exact .inr ⟨ "Extract: tuple expected", w0, fun P => by simp⟩
theorem store_skips {ρ : Operand → Value} {o : Oper} {t : TypeId} {x y : Operand} (h : o.op = .store t x y) (w : World) : (∃ w1, (execOp ρ o).run P w = .ok .skip w1) ∨ ∃ z w1, (execOp ρ o).run P w = .halt z w1 := by
 unfold execOp
 rw [h]
 simp only
 cases hr : (Instr.storeAt t (ρ x) (ρ y)).run P w with
 | ok _ w1 => exact .inl ⟨w1, by simp [hr]⟩
 | halt z w1 => exact .inr ⟨z, w1, by simp [hr]⟩
theorem cnt_all {listed : Array Bool} : ∀ n, (∀ i, i < n → listed.getD i true = true) → cnt listed n = 0
 | 0, _ => rfl
 | k + 1, h => by
  simp only [cnt, cnt_all k (fun i hi => h i (by omega)), h k (by omega)]
  rfl
structure LookF (ops : Array Oper) (n : Nat) (D : List (List Nat)) (R : List Nat) (i : Nat) (o : Oper) : Prop where
 guard : ∀ g b, o.guard = some (g, b) → g ∈ D.getD i []
 dst : o.dst.isSome = true
 after : ∀ e ∈ o.after, Region.binds .any e = true → e.on < n ∧ R.getD e.on 0 < R.getD i 0
 deps : ∀ j ∈ D.getD i [], j < n ∧ Region.waitsFor .any ops i j = true
 ops : ∀ t, Operand.tmp t ∈ o.op.operands → ∀ j, j < n → dstOf ops j = some t → j ∈ D.getD i []
theorem looksF_spec {ops : Array Oper} {n : Nat} {D : List (List Nat)} {R : List Nat} (h : looksF ops n D R = true) {i : Nat} (hi : i < n) : ∃ o, ops[i]? = some o ∧ LookF ops n D R i o := by
 have h1 := List.all_eq_true.1 h i (List.mem_range.2 hi)
 cases ho : ops[i]? with
 | none => rw [ho] at h1; cases h1
 | some o =>
  rw [ho] at h1
  simp only [Bool.and_eq_true] at h1
  obtain ⟨⟨⟨⟨g1, g0⟩, g2⟩, g3⟩, g4⟩ := h1
  refine ⟨o, rfl, fun g b hgb => (by rw [hgb] at g1; exact List.contains_iff_mem.1 g1), g0, fun e he hbi => ?_, fun j hj => ?_, fun t ht j hj hd => ?_⟩
  ·have := Array.all_eq_true_iff_forall_mem.1 g2 e he; rw [hbi] at this; simpa using this
  ·have := List.all_eq_true.1 g3 j hj; simpa using this
  ·have h2 := Array.all_eq_true_iff_forall_mem.1 g4 _ ht
   have h3 := List.all_eq_true.1 h2 j (List.mem_range.2 hj)
   simp only [hd, bne_self_eq_false, Bool.false_or, List.contains_iff_mem] at h3
   exact h3
theorem readyF_some {ops : Array Oper} {n : Nat} {D : List (List Nat)} {R : List Nat} {listed : Array Bool} (hnn : n ≤ ops.size) (hl : looksF ops n D R = true) (hs : listed.size = ops.size) : ∀ i, i < n → listed.getD i true = false → Region.ready .any ops listed ≠ [] := by
 intro i
 generalize hr : R.getD i 0 = r
 induction r using Nat.strongRecOn generalizing i with
 | _ r ih =>
  intro hi hun h0
  obtain ⟨o, ho, hk⟩ := looksF_spec hl hi
  by_cases hall : ∀ e ∈ o.after, Region.binds .any e = true → listed.getD e.on false = true
  ·have : i ∈ Region.ready .any ops listed := mem_ready.2 ⟨hun, o, ho, hall⟩
   rw [h0] at this; cases this
  ·obtain ⟨e, hall⟩ := Classical.not_forall.1 hall
   obtain ⟨he, hall⟩ := Classical.not_imp.1 hall
   obtain ⟨hb, hall⟩ := Classical.not_imp.1 hall
   have hlt := hk.after e he hb
   have hio := (Array.getElem?_eq_some_iff.1 ho).1
   have hf : listed.getD e.on false = false := by simpa using hall
   exact ih _ (by rw [← hr]; exact hlt.2) e.on rfl hlt.1 (getD_in (by omega) hf) h0
theorem wp_region_growf {id : Nat} {Q : Exit → Act → World → Prop} {a0 : Act} {w : World} {l : List Oper} (n f : Nat) (Ts : List TP) (D : List (List Nat)) (R : List Nat) (hm : P.follows .mixedOrders = true) (hB : growBF l.toArray n f D R = true)
  (hops : HeadOk P l.toArray Ts w a0 D (l.take n) 0)
  (htail : ∀ w', Below w.heap.size w w' → TailOk Ts (fun a => wpList P l.toArray (fun e _ _ => e = .normal) ((l.drop n).take 1) a w' ∧ wpList P l.toArray Q (l.drop n) a w') w' (l.take n) 0 a0) : (Code.region id l.toArray true).wp P Q a0 w := by
 simp only [growBF, headBF, Bool.and_eq_true, decide_eq_true_eq, Bool.or_eq_true] at hB
 obtain ⟨⟨⟨⟨⟨⟨⟨⟨⟨⟨hsel, hn⟩, hdist⟩, hlook⟩, hfn⟩, hns⟩, hphase⟩, hchain⟩, hlate⟩, hfloat⟩, hseq⟩ := hB
 obtain ⟨of, os, hof, hos, HF⟩ := floatB_spec hfloat
 have hD := dists_spec hdist
 have hnl : n ≤ l.length := by simpa using hn
 have key : ∀ c (listed : Array Bool) (a : Act) (w' : World) (vs : Nat → Value), cnt listed n = c → HeadInv .any l.toArray n listed → a = putN l.toArray (fun j => listed.getD j false) vs a0 n →
   (∀ j, j < n → listed.getD j false = true → (Ts.getD j TP.any).p w' (vs j)) → Below w.heap.size w w' → wpAny P .any l.toArray Q (c + (l.toArray.size - n)) listed a w' := by
  intro c
  induction c with
  | zero =>
   intro listed a w' vs hc inv ha hv hb
   have hall : ∀ i, i < n → listed.getD i false = true := fun i hi => by
    have h1 := cnt_zero n hc i hi
    have hlt : i < listed.size := by rw [inv.size]; omega
    simp [hlt] at h1 ⊢; exact h1
   have hls : listed = ((List.range l.toArray.size).map fun i => decide (i < n)).toArray := by
    refine Array.ext (by simp [inv.size]) (fun i h1 h2 => ?_)
    simp only [List.getElem_toArray, List.getElem_map, List.getElem_range]
    by_cases hin : i < n
    ·have := hall i hin
     simp only [hin, decide_true]
     simpa [h1] using this
    ·have := inv.tail i (by omega) (by rw [← inv.size]; exact h1)
     simp only [hin, decide_false]
     simpa [h1] using this
   have ht := (htail w' hb).at (vs := vs) _ _ _ (fun j hj => by
    rw [Nat.zero_add]
    have hj' : j < n := by simp at hj; omega
    exact hv j hj' (hall j hj'))
   rw [fold_putN (L := fun j => listed.getD j false) n hnl hall, ← ha] at ht
   have := wpAny_of_seq (md := .any) (Q' := Q) (l.drop n) n listed a w' (fun j => by simp [List.getElem?_drop]) (by rw [hls]; simpa using hseq) ht.2
   simpa using this
  | succ c ih =>
   intro listed a w' vs hc inv ha hv hb
   obtain ⟨i0, hi0, hun0⟩ := cnt_pos n (by omega : cnt listed n ≠ 0)
   rw [show c + 1 + (l.toArray.size - n) = (c + (l.toArray.size - n)) + 1 by omega]
   refine ⟨fun h0 => absurd h0 (readyF_some hn hlook inv.size i0 hi0 hun0), fun i hi => ?_⟩
   obtain ⟨hun, oi, hoi, hall⟩ := mem_ready.1 hi
   have hilt := (Array.getElem?_eq_some_iff.1 hoi).1
   by_cases hin : ¬ i < n
   ·have hi_n : i = n := by
     rcases Nat.lt_or_ge n i with h | h
     ·have h1 := List.all_eq_true.1 hchain i (List.mem_range.2 hilt)
      simp only [Bool.or_eq_true, decide_eq_true_eq] at h1
      rcases h1 with h1 | h1
      ·omega
      ·obtain ⟨o', ho', e, he, hb', hon⟩ := Region.waitsFor_spec h1
       have : o' = oi := Option.some.inj (ho'.symm.trans hoi)
       subst this
       have h2 := hall e he hb'
       rw [hon, getD_both (inv.tail (i - 1) (by omega) (by omega))] at h2
       cases h2
     ·omega
    have hoin : l.toArray[n]? = some oi := by rw [← hi_n]; exact hoi
    have hallF : ∀ j, j < n → j ≠ f → listed.getD j false = true := fun j hj hjf => by
     have h1 := List.all_eq_true.1 hphase j (List.mem_range.2 hj)
     simp only [Bool.or_eq_true, beq_iff_eq] at h1
     rcases h1 with h1 | h1
     ·exact absurd h1 hjf
     ·obtain ⟨o', ho', e, he, hb', hon⟩ := Region.waitsFor_spec h1
      have : o' = oi := Option.some.inj (ho'.symm.trans hoin)
      subst this
      rw [← hon]; exact hall e he hb'
    have hif : i0 = f := by
     by_cases h : i0 = f
     ·exact h
     ·have h1 := hallF i0 hi0 h
      rw [getD_both hun0] at h1; cases h1
    have hunf : listed.getD f true = false := by rw [← hif]; exact hun0
    have hfalse : listed.getD f false = false := getD_both hunf
    have hc1 : c = 0 := by
     have h1 := cnt_set hunf n hfn
     have h2 : cnt (listed.setIfInBounds f true) n = 0 := cnt_all n (fun j hj => by
      by_cases hjf : j = f
      ·subst hjf
       have hlt : j < listed.size := by rw [inv.size]; omega
       simp [hlt]
      ·rw [getD_set_ne true (fun e => hjf e.symm)]
       have h3 := hallF j hj hjf
       have hlt : j < listed.size := by rw [inv.size]; omega
       simp [hlt] at h3 ⊢; exact h3)
     omega
    obtain ⟨o, ho, hk⟩ := looksF_spec hlook hfn
    have : o = of := Option.some.inj (ho.symm.trans hof)
    subst this
    have hlist : ∀ j ∈ D.getD f [], listed.getD j false = true := fun j hj => by
     obtain ⟨oj, h1, e, he, hbd, hon⟩ := Region.waitsFor_spec (hk.deps j hj).2
     have : oj = o := Option.some.inj (h1.symm.trans hof)
     subst this
     refine hallF j (hk.deps j hj).1 (fun e' => ?_)
     have h2 := (hk.after e he hbd).2
     rw [hon, e'] at h2
     exact Nat.lt_irrefl _ h2
    have hneed := (HeadOk.get _ 0 hops f o (by rw [List.getElem?_take_of_lt hfn]; simpa using hof) w' hb).at (vs := vs) _ _ (fun j hj => by
     exact hv j (hk.deps j (by simpa using hj)).1 (hlist j (by simpa using hj)))
    rw [Nat.zero_add] at hneed
    have hsame : ∀ t j, j ∈ D.getD f [] → dstOf l.toArray j = some t → a.eval (.tmp t) = (putD l.toArray vs (D.getD f []) a0).eval (.tmp t) := fun t j hjD hjt => by
     have hj := (hk.deps j hjD).1
     rw [ha, putN_same n hD j hj (hlist j hjD) hjt, putD_same (D.getD f []) a0 hjD hjt (fun k hk' hkj => hD j k t hj (hk.deps k hk').1 (fun e => hkj e.symm) hjt)]
    have hopsf : ∀ x ∈ o.op.operands, a.eval x = (putD l.toArray vs (D.getD f []) a0).eval x := fun x hx => by
     cases x with
     | tmp t =>
      by_cases hex : ∃ j, j < n ∧ dstOf l.toArray j = some t
      ·obtain ⟨j, hj, hjt⟩ := hex
       exact hsame t j (hk.ops t hx j hj hjt) hjt
      ·rw [ha, putN_other n (fun j hj _ e => hex ⟨j, hj, e⟩), putD_other _ _ (fun j hj e => hex ⟨j, (hk.deps j hj).1, e⟩)]
     | _ => rfl
    have hszD : (putD l.toArray vs (D.getD f []) a0).tmps.size = a.tmps.size := by rw [ha, putN_size, putD_size]
    generalize putD l.toArray vs (D.getD f []) a0 = a1 at hneed hopsf hszD
    have hwF : ∀ y, Region.wanted o y = true := fun y => by unfold Region.wanted; rw [HF.gf]
    have hwS : ∀ y, Region.wanted os y = true := fun y => by unfold Region.wanted; rw [HF.gs]
    unfold wpList at hneed
    rw [if_pos (hwF _)] at hneed
    have h0 : o.wp P a1 w' (OpPost o (Ts.getD f TP.any) w' a0.defers .normal) (OpPost o (Ts.getD f TP.any) w' a0.defers) := by
     rcases hneed with h | ⟨_, _, _, h⟩
     ·exact h
     ·exact h.elim
    obtain ⟨t0, k0, hop⟩ := HF.opf
    unfold Oper.wp at h0
    rcases extract_pure (ρ := a1.eval) hop w' with ⟨v, hv1⟩ | ⟨x, w1, hx⟩
    case inr => rw [hx P] at h0; exact h0.elim
    rw [hv1 P w'] at h0
    have hT : OpPost o (Ts.getD f TP.any) w' a0.defers .normal (a1.put o.dst v) w' := h0
    have hrunf : ∀ w, (execOp a.eval o).run P w = .ok (.value v) w := fun w => by
     rw [execOp_congr o (fun cs b => Region.noSelect_spec hsel f o cs b hof) hopsf]; exact hv1 P w
    have hdo : dstOf l.toArray f = o.dst := by unfold dstOf; rw [hof]; rfl
    have hput : a.put o.dst (match o.dst with | some d => if d < a.tmps.size then v else undef | none => v) = a.put o.dst v := by
     cases hd : o.dst with
     | none => rfl
     | some d =>
      by_cases hlt : d < a.tmps.size
      ·simp [hlt]
      ·simp only [hlt, if_false, Act.put]
       rw [Array.setIfInBounds_eq_of_size_le (Nat.le_of_not_lt hlt), Array.setIfInBounds_eq_of_size_le (Nat.le_of_not_lt hlt)]
    have ht := (htail w' hb).at (vs := fun j => if j = f then (match o.dst with | some d => if d < a.tmps.size then v else undef | none => v) else vs j) _ _ _ (fun j hj => by
     rw [Nat.zero_add]
     have hj' : j < n := by simp at hj; omega
     by_cases hjf : j = f
     ·subst hjf
      simp only [if_true]
      have h1 := hT.1
      cases hd : o.dst with
      | none => have := hk.dst; rw [hd] at this; cases this
      | some d =>
       rw [hd] at h1
       simp only [eval_put_same] at h1
       rw [hszD] at h1
       exact h1
     ·simp only [hjf, if_false]
      exact hv j hj' (hallF j hj' hjf))
    rw [fold_putN (L := fun j => listed.getD j false || decide (j = f)) n hnl (fun j hj => by
     by_cases hjf : j = f
     ·simp [hjf]
     ·rw [hallF j hj hjf]; rfl), putN_add _ n hD hfn hfalse, ← ha, hdo, hput] at ht
    have hdrop : l.drop n = os :: l.drop (n + 1) := by
     have hlt : n < l.length := by simpa using hns
     have h1 : l[n]? = some os := by simpa using hos
     rw [List.drop_eq_getElem_cons hlt]
     rw [List.getElem?_eq_getElem hlt] at h1
     rw [Option.some.inj h1]
    rw [hdrop] at ht
    obtain ⟨hst, hrun⟩ := ht
    simp only [List.take_succ_cons, List.take_zero] at hst
    unfold wpList at hst hrun
    rw [if_pos (hwS _)] at hst hrun
    have hcs : execOp a.eval os = execOp (a.put o.dst v).eval os := execOp_congr os (fun cs b => Region.noSelect_spec hsel n os cs b hos) (fun x hx => by
     cases x with
     | tmp t => exact (eval_put_other _ _ (by rw [← hdo]; exact HF.apart t hx)).symm
     | _ => rfl)
    obtain ⟨t1, x1, y1, hsop⟩ := HF.ops_
    obtain ⟨w2, hw2⟩ : ∃ w2, (execOp (a.put o.dst v).eval os).run P w' = .ok .skip w2 := by
     rcases store_skips (P := P) (ρ := (a.put o.dst v).eval) hsop w' with h | ⟨z, w1, h⟩
     ·exact h
     ·exfalso
      rcases hst with h' | ⟨_, _, _, h'⟩
      ·unfold Oper.wp at h'
       rw [h] at h'
       cases z <;> simp only [Oper.upon] at h' <;> cases h'
      ·cases h'
    rw [hi_n, hc1]
    unfold wpOp
    simp only [hos, hwS, if_true]
    rcases hrun with hrun | ⟨h1, h2⟩
    ·left
     unfold Oper.wp at hrun ⊢
     rw [hw2] at hrun
     rw [hcs, hw2]
     simp only [Oper.upon, HF.ds, Act.put] at hrun ⊢
     rw [show 0 + (l.toArray.size - n) = (l.toArray.size - (n + 1)) + 1 by omega]
     refine ⟨fun h0 => absurd h0 (readyF_some hn hlook (by simpa using inv.size) f hfn (by rw [getD_set_ne true (by omega)]; exact hunf)), fun k hk2 => ?_⟩
     obtain ⟨hunk, ok, hok, hallk⟩ := mem_ready.1 hk2
     have hklt := (Array.getElem?_eq_some_iff.1 hok).1
     have hkf : k = f := by
      by_cases h : k = f
      ·exact h
      exfalso
      rcases Nat.lt_trichotomy k n with h1 | h1 | h1
      ·rw [getD_set_ne true (by omega)] at hunk
       have h3 := hallF k h1 h
       rw [getD_both hunk] at h3; cases h3
      ·subst h1
       have hlt : k < listed.size := by rw [inv.size]; exact hklt
       simp [hlt] at hunk
      ·by_cases h2 : k = n + 1
       ·rcases hlate with h3 | h3
        ·omega
        ·obtain ⟨o', ho', e, he, hb', hon⟩ := Region.waitsFor_spec h3
         have : o' = ok := Option.some.inj (ho'.symm.trans (by rw [← h2]; exact hok))
         subst this
         have h4 := hallk e he hb'
         rw [hon, getD_set_ne false (by omega), hfalse] at h4
         cases h4
       ·have h3 := List.all_eq_true.1 hchain k (List.mem_range.2 hklt)
        simp only [Bool.or_eq_true, decide_eq_true_eq] at h3
        rcases h3 with h3 | h3
        ·omega
        ·obtain ⟨o', ho', e, he, hb', hon⟩ := Region.waitsFor_spec h3
         have : o' = ok := Option.some.inj (ho'.symm.trans hok)
         subst this
         have h4 := hallk e he hb'
         rw [hon, getD_set_ne false (by omega), getD_both (inv.tail (k - 1) (by omega) (by omega))] at h4
         cases h4
     rw [hkf]
     unfold wpOp
     simp only [hof, hwF, if_true]
     left
     unfold Oper.wp
     rw [hrunf w2]
     simp only [Oper.upon]
     have hls : (listed.setIfInBounds n true).setIfInBounds f true = (((List.range l.toArray.size).map fun i => decide (i < n)).toArray).setIfInBounds n true := by
      refine Array.ext_getElem? fun j => ?_
      simp only [Array.getElem?_setIfInBounds, Array.size_setIfInBounds, inv.size, List.size_toArray, List.length_map, List.length_range, List.getElem?_toArray, List.getElem?_map]
      by_cases hjf : f = j
      ·subst hjf
       rw [if_pos rfl, if_pos (by simp only [List.size_toArray] at hns ⊢; omega), if_neg (by omega)]
       rw [List.getElem?_range (by simp only [List.size_toArray] at hns; omega)]
       simp [hfn]
      ·rw [if_neg hjf]
       by_cases hjn : n = j
       ·rw [if_pos hjn, if_pos hjn]
       ·rw [if_neg hjn, if_neg hjn]
        by_cases hjs : j < l.length
        ·rw [List.getElem?_range hjs]
         have hjs' : j < listed.size := by rw [inv.size]; simpa using hjs
         rw [Array.getElem?_eq_getElem hjs']
         by_cases hj : j < n
         ·have h3 := hallF j hj (fun e => hjf e.symm)
          simp [hj]
          simpa [hjs'] using h3
         ·have h3 := inv.tail j (by omega) (by simpa using hjs)
          simp [hj]
          simpa [hjs'] using h3
        ·rw [Array.getElem?_eq_none (by rw [inv.size]; simpa using hjs), List.getElem?_eq_none (by simpa using hjs)]
         rfl
     have hseq2 : Region.seqB .any l.toArray (l.toArray.size - (n + 1)) (n + 1) ((((List.range l.toArray.size).map fun i => decide (i < n)).toArray).setIfInBounds n true) = true := by
      have h3 := hseq
      rw [show l.toArray.size - n = (l.toArray.size - (n + 1)) + 1 by omega] at h3
      simp only [Region.seqB, Bool.and_eq_true] at h3
      exact h3.2
     have := wpAny_of_seq (md := .any) (Q' := Q) (l.drop (n + 1)) (n + 1) ((listed.setIfInBounds n true).setIfInBounds f true) (a.put o.dst v) w2 (fun j => by simp [List.getElem?_drop]) (by rw [hls]; simpa using hseq2) hrun
     simpa using this
    ·right
     refine ⟨?_, h2⟩
     unfold Oper.asks at h1 ⊢
     rw [hcs]; exact h1
   replace hin : i < n := by omega
   obtain ⟨o, ho, hk⟩ := looksF_spec hlook hin
   have : oi = o := Option.some.inj (hoi.symm.trans ho)
   subst this
   have hlist : ∀ j ∈ D.getD i [], listed.getD j false = true := fun j hj => by
    obtain ⟨oj, h1, e, he, hbd, hon⟩ := Region.waitsFor_spec (hk.deps j hj).2
    have : oj = oi := Option.some.inj (h1.symm.trans hoi)
    subst this
    rw [← hon]; exact hall e he hbd
   have hneed := (HeadOk.get _ 0 hops i oi (by rw [List.getElem?_take_of_lt hin]; simpa using hoi) w' hb).at (vs := vs) _ _ (fun j hj => by
    exact hv j (hk.deps j (by simpa using hj)).1 (hlist j (by simpa using hj)))
   rw [Nat.zero_add] at hneed
   have hdef : (putD l.toArray vs (D.getD i []) a0).defers = a0.defers := by
    have : ∀ (Dl : List Nat) (b : Act), (putD l.toArray vs Dl b).defers = b.defers := by
     intro Dl
     induction Dl with
     | nil => intro b; rfl
     | cons j js ihj => intro b; unfold putD; rw [ihj, put_defers]
    exact this _ _
   have hfalse : listed.getD i false = false := getD_both hun
   have hsame : ∀ t j, j ∈ D.getD i [] → dstOf l.toArray j = some t → a.eval (.tmp t) = (putD l.toArray vs (D.getD i []) a0).eval (.tmp t) := fun t j hjD hjt => by
    have hj := (hk.deps j hjD).1
    rw [ha, putN_same n hD j hj (hlist j hjD) hjt, putD_same (D.getD i []) a0 hjD hjt (fun k hk' hkj => hD j k t hj (hk.deps k hk').1 (fun e => hkj e.symm) hjt)]
   have hwant : Region.wanted oi (yielded l.toArray a.tmps) = Region.wanted oi (yielded l.toArray (putD l.toArray vs (D.getD i []) a0).tmps) := by
    unfold Region.wanted
    cases hgd : oi.guard with
    | none => rfl
    | some gb =>
     obtain ⟨g, b⟩ := gb
     have hgD := hk.guard g b hgd
     have hgl := (hk.deps g hgD).1
     have : yielded l.toArray a.tmps g = yielded l.toArray (putD l.toArray vs (D.getD i []) a0).tmps g := by
      unfold yielded
      cases hdg : (l.toArray[g]?).bind (·.dst) with
      | none => rfl
      | some t =>
       simp only [Option.bind_some]
       rw [tmps_eval (by rw [ha, putN_size, putD_size]) (hsame t g hgD hdg)]
     simp only [this]
   refine wpOp_of_one (a1 := putD l.toArray vs (D.getD i []) a0) hoi hwant (fun cs b => Region.noSelect_spec hsel i oi cs b hoi) (fun x hx => ?_) (by rw [ha, putN_size, putD_size]) (T := Ts.getD i TP.any) (by rw [hdef]; exact hneed) (fun v w'' hT hb' => ?_)
   ·cases x with
    | tmp t =>
     by_cases hex : ∃ j, j < n ∧ dstOf l.toArray j = some t
     ·obtain ⟨j, hj, hjt⟩ := hex
      have hjD := hk.ops t hx j hj hjt
      rw [ha, putN_same n hD j hj (hlist j hjD) hjt, putD_same (D.getD i []) a0 hjD hjt (fun k hk' hkj => hD j k t hj (hk.deps k hk').1 (fun e => hkj e.symm) hjt)]
     ·rw [ha, putN_other n (fun j hj _ e => hex ⟨j, hj, e⟩), putD_other _ _ (fun j hj e => hex ⟨j, (hk.deps j hj).1, e⟩)]
    | _ => rfl
   ·have hsz : a.tmps.size = a0.tmps.size := by rw [ha, putN_size]
    refine ih (listed.setIfInBounds i true) (a.put oi.dst v) w'' (fun j => if j = i then (match oi.dst with | some d => if d < a.tmps.size then v else undef | none => v) else vs j) (by have := cnt_set hun n hin; omega) (inv.set hi hin) ?_ ?_ (hb.trans (hb'.mono hb.size))
    ·have hdo : dstOf l.toArray i = oi.dst := by unfold dstOf; rw [hoi]; rfl
     have hgd : (fun j => (listed.setIfInBounds i true).getD j false) = fun j => listed.getD j false || decide (j = i) := by
      funext j
      by_cases hji : j = i
      ·subst hji
       have hlt : j < listed.size := by rw [inv.size]; exact hilt
       simp [hlt]
      ·rw [getD_set_ne false (fun e => hji e.symm)]; simp [hji]
     rw [hgd, putN_add _ n hD hin hfalse, ← ha, hdo]
     cases hd : oi.dst with
     | none => rfl
     | some d =>
      by_cases hlt : d < a.tmps.size
      ·simp [hlt]
      ·simp only [hlt, if_false, Act.put]
       rw [Array.setIfInBounds_eq_of_size_le (Nat.le_of_not_lt hlt), Array.setIfInBounds_eq_of_size_le (Nat.le_of_not_lt hlt)]
    ·intro j hj hl
     by_cases hji : j = i
     ·subst hji
      simp only [if_true]
      cases hd : oi.dst with
      | none => have := hk.dst; rw [hd] at this; cases this
      | some d => exact hT d hd
     ·simp only [hji, if_false]
      rw [getD_set_ne false (fun e => hji e.symm)] at hl
      exact (Ts.getD j TP.any).gr _ _ _ hb' (hv j hj hl)
 have inv0 : HeadInv .any l.toArray n (Array.replicate l.toArray.size false) :=
  ⟨by simp, fun j oj _ hl => (by rw [getD_replicate_false] at hl; cases hl), fun t _ ht => getD_in (by simpa using ht) (getD_replicate_false _ _)⟩
 refine wp_region_any hm ?_
 have hcnt : ∀ k, k ≤ l.toArray.size → cnt (Array.replicate l.toArray.size false) k = k := by
  intro k
  induction k with
  | zero => intro _; rfl
  | succ k ih =>
   intro hk
   have h1 := ih (by omega)
   have h2 : (Array.replicate l.toArray.size false).getD k true = false := getD_in (by simp at hk ⊢; omega) (getD_replicate_false _ _)
   simp only [cnt, h2, if_true]
   omega
 have := key n _ a0 { w with drawn := w.drawn + 1 } (fun _ => undef) (hcnt n hn) inv0 ?_ (fun j _ hl => by rw [getD_replicate_false] at hl; cases hl) ⟨rfl, rfl, rfl, Nat.le_refl _, fun _ _ => rfl⟩
 ·rwa [show n + (l.toArray.size - n) = l.toArray.size by omega] at this
 ·have : ∀ k, putN l.toArray (fun j => (Array.replicate l.toArray.size false).getD j false) (fun _ => undef) a0 k = a0 := by
   intro k
   induction k with
   | zero => rfl
   | succ k ih => rw [putN_succ, getD_replicate_false, ih]; rfl
  exact (this n).symm
end
end Grow
end Go.Proofs.YtlbnjgnbpiidaaaGreatDoor
