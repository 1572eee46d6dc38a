/- A region that draws its order: operations that only read, a chain of stores that may come up between them, and a tail that waits for all of these. Printed by gen_growt.py. No program stands in it. -/
import Derived.Test.YtacchooggifnhaaDoorCl15
namespace Go.Proofs.YtacchooggifnhaaDoor
open Go.RowKit
namespace Grow
section
variable {P : Program}
def storTB (ops : Array Oper) (n m : Nat) (D : List (List Nat)) (ks : List (Option Nat)) : Bool :=
  Region.noSelect ops && decide (n ≤ ops.size) && ((List.range ops.size).all fun i => decide (i < n) || (List.range n).all fun j => Region.waitsFor .any ops i j) && decide (ks.length = n) && dists ops n && looksV ops n D &&
  ((List.range n).all fun i => match ks.getD i none with | none => true | some 0 => decide (0 < m) | some (j + 1) => decide (j + 1 < m) && (List.range n).any fun i' => ks.getD i' none == some j && Region.waitsFor .any ops i i') &&
  ((List.range n).all fun i => (List.range n).all fun i' => i == i' || ks.getD i none == none || ks.getD i none != ks.getD i' none) &&
  (m == 0 || (List.range n).any fun i => ks.getD i none == some (m - 1)) && Region.seqB .any ops (ops.size - n) n ((List.range ops.size).map fun i => decide (i < n)).toArray
/-- THE LAW. The first n of l read, and store one behind the other (ks: which operation is which store; Xs: the worlds behind 0, 1 .. of them); each operation is walked once. -/
theorem wp_region_storest {id : Nat} {Q : Exit → Act → World → Prop} {a0 : Act} {w : World} {l : List Oper} (n m : Nat) (Xs : List World) (C : World → Prop) (Vs : List (Value → Prop)) (D : List (List Nat)) (ks : List (Option Nat)) (hm : P.follows .mixedOrders = true) (hB : storTB l.toArray n m D ks = true)
    (hX0 : Xs.getD 0 w = { w with drawn := w.drawn + 1 }) (hC : ∀ k, k ≤ m → C (Xs.getD k w))
    (hops : HeadV P l.toArray Vs Xs w C a0 D (l.take n) ks 0)
    (htail : TailV Vs (fun a => wpList P l.toArray Q (l.drop n) a (Xs.getD m w)) (l.take n) 0 a0) : (Code.region id l.toArray true).wp P Q a0 w := by
  simp only [storTB, Bool.and_eq_true, decide_eq_true_eq] at hB
  obtain ⟨⟨⟨⟨⟨⟨⟨⟨⟨hsel, hn⟩, hwall⟩, hkl⟩, hdist⟩, hlook⟩, hchain⟩, hinj⟩, hlast⟩, hseq⟩ := hB
  have hD := dists_spec hdist
  have hnl : n ≤ l.length := by simpa using hn
  have key : ∀ f (listed : Array Bool) (a : Act) (k : Nat) (vs : Nat → Value), cnt listed n = f → HeadInv .any l.toArray n listed → a = putN l.toArray (fun j => listed.getD j false) vs a0 n →
      (∀ j, j < n → listed.getD j false = true → (dstOf l.toArray j).isSome = true → vOf Vs j (vs j)) → k ≤ m → (∀ i j, i < n → ks.getD i none = some j → (listed.getD i false = true ↔ j < k)) → wpAny P .any l.toArray Q (f + (l.toArray.size - n)) listed a (Xs.getD k w) := by
    intro f
    induction f with
    | zero =>
      intro listed a k vs hc inv ha hv hkm hks
      have hall : ∀ i, i < n → listed.getD i false = true := fun i hi => by
        have h1 := cnt_zero n hc i hi
        have hlt : i < listed.size := by rw [inv.size]; omega
        simp [hlt] at h1 ⊢; exact h1
      have hkm2 : k = m := by
        rcases Bool.or_eq_true_iff.1 hlast with h | h
        · have : m = 0 := by simpa using h
          omega
        · obtain ⟨i, hi, h2⟩ := List.any_eq_true.1 h
          have hi' := List.mem_range.1 hi
          have := (hks i (m - 1) hi' (by simpa using h2)).1 (hall i hi')
          omega
      subst hkm2
      have hls : listed = ((List.range l.toArray.size).map fun i => decide (i < n)).toArray := by
        refine Array.ext (by simp [inv.size]) (fun i h1 h2 => ?_)
        simp only [List.getElem_toArray, List.getElem_map, List.getElem_range]
        by_cases hin : i < n
        · have := hall i hin
          simp only [hin, decide_true]
          simpa [h1] using this
        · have := inv.tail i (by omega) (by rw [← inv.size]; exact h1)
          simp only [hin, decide_false]
          simpa [h1] using this
      have ht := TailV.at (vs := vs) _ _ _ htail (fun j o hj hs => by
        rw [Nat.zero_add]
        have hjl := (List.getElem?_eq_some_iff.1 hj).1
        rw [List.length_take] at hjl
        have hj' : j < n := by omega
        rw [List.getElem?_take_of_lt hj'] at hj
        exact hv j hj' (hall j hj') (by unfold dstOf; simp only [List.getElem?_toArray, hj, Option.bind_some]; exact hs))
      have hfold := fold_putN (L := fun j => listed.getD j false) (vs := vs) (a := a0) (l := l) n (by omega) hall
      rw [hfold, ← ha] at ht
      have := wpAny_of_seq (P := P) (ops := l.toArray) (md := .any) (Q' := Q) (l.drop n) n listed a (Xs.getD k w) (fun j => by simp [List.getElem?_drop]) (by rw [hls]; simpa using hseq) ht
      simpa using this
    | succ f ih =>
      intro listed a k vs hc inv ha hv hkm hks
      obtain ⟨i0, hi0, hun0⟩ := cnt_pos n (by omega : cnt listed n ≠ 0)
      rw [show f + 1 + (l.toArray.size - n) = (f + (l.toArray.size - n)) + 1 by omega]
      refine ⟨fun h0 => absurd h0 (readyV_some hlook inv.size i0 hi0 hun0), fun i hi => ?_⟩
      obtain ⟨hun, oi, hoi, hall⟩ := mem_ready.1 hi
      have hilt := (Array.getElem?_eq_some_iff.1 hoi).1
      have hin : i < n := by
        refine Classical.byContradiction fun hge => ?_
        have h1 := List.all_eq_true.1 hwall i (List.mem_range.2 hilt)
        have hge' : decide (i < n) = false := decide_eq_false hge
        rw [hge', Bool.false_or] at h1
        have h2 := List.all_eq_true.1 h1 i0 (List.mem_range.2 hi0)
        obtain ⟨oj, h3, e, he, hbd, hon⟩ := Region.waitsFor_spec h2
        have : oj = oi := Option.some.inj (h3.symm.trans hoi)
        subst this
        have h4 := hall e he hbd
        rw [hon, getD_both hun0] at h4
        cases h4
      obtain ⟨o, ho, hk⟩ := looksV_spec hlook hin
      have : oi = o := Option.some.inj (hoi.symm.trans ho)
      subst this
      have hwaits : ∀ j, Region.waitsFor .any l.toArray i j = true → listed.getD j false = true := fun j hj => by
        obtain ⟨oj, h1, e, he, hbd, hon⟩ := Region.waitsFor_spec hj
        have : oj = oi := Option.some.inj (h1.symm.trans hoi)
        subst this
        rw [← hon]; exact hall e he hbd
      have hlist : ∀ j ∈ D.getD i [], listed.getD j false = true := fun j hj => hwaits j (hk.deps j hj).1.2
      have hfalse : listed.getD i false = false := getD_both hun
      -- the number of stores behind this operation
      obtain ⟨k', hkm', hks', hneed⟩ : ∃ k', k' ≤ m ∧ (∀ i2 j2, i2 < n → ks.getD i2 none = some j2 → (((listed.setIfInBounds i true).getD i2 false = true) ↔ j2 < k')) ∧ NeedV l.toArray Vs (fun a => wpList P l.toArray (PostV oi (vOf Vs i) (Xs.getD k' w) a0.defers) [oi] a (Xs.getD k w)) (D.getD i []) a0 := by
        have hgetset : ∀ i2, (listed.setIfInBounds i true).getD i2 false = if i2 = i then true else listed.getD i2 false := fun i2 => by
          by_cases h : i2 = i
          · subst h
            have hlt : i2 < listed.size := by rw [inv.size]; exact hilt
            simp [hlt]
          · rw [getD_set_ne false (fun e => h e.symm), if_neg h]
        have hx : ks[i]? = some (ks.getD i none) := by
          have h1 : i < ks.length := by omega
          rw [List.getD_eq_getElem?_getD, List.getElem?_eq_getElem h1]; rfl
        have hol : (l.take n)[i]? = some oi := by rw [List.getElem?_take_of_lt hin]; simpa using hoi
        have hhead := HeadV.get (l.take n) ks 0 hops i oi _ hol hx
        rw [Nat.zero_add] at hhead
        cases hki : ks.getD i none with
        | none =>
          rw [hki] at hhead
          refine ⟨k, hkm, fun i2 j2 h1 h2 => ?_, hhead _ (hC k hkm)⟩
          rw [hgetset]
          by_cases h : i2 = i
          · subst h; rw [hki] at h2; cases h2
          · rw [if_neg h]; exact hks i2 j2 h1 h2
        | some j =>
          rw [hki] at hhead
          have hnk : ¬ j < k := fun h => by
            have := (hks i j hin hki).2 h
            rw [hfalse] at this; cases this
          have hch := List.all_eq_true.1 hchain i (List.mem_range.2 hin)
          simp only [hki] at hch
          have hjk : j = k ∧ j < m := by
            cases j with
            | zero => exact ⟨by omega, by simpa using hch⟩
            | succ j =>
              simp only [Bool.and_eq_true, decide_eq_true_eq] at hch
              obtain ⟨i', hi', h2⟩ := List.any_eq_true.1 hch.2
              simp only [Bool.and_eq_true, beq_iff_eq] at h2
              have := (hks i' j (List.mem_range.1 hi') h2.1).1 (hwaits i' h2.2)
              exact ⟨by omega, hch.1⟩
          obtain ⟨rfl, hjm⟩ := hjk
          refine ⟨j + 1, by omega, fun i2 j2 h1 h2 => ?_, hhead⟩
          rw [hgetset]
          by_cases h : i2 = i
          · subst h
            rw [hki] at h2
            injection h2 with h2
            simp; omega
          · rw [if_neg h, hks i2 j2 h1 h2]
            have h3 := List.all_eq_true.1 (List.all_eq_true.1 hinj i2 (List.mem_range.2 h1)) i (List.mem_range.2 hin)
            rw [h2, hki] at h3
            have h4 : j2 ≠ j := by
              intro e
              subst e
              simp [h] at h3
            omega
      have hneed2 := NeedV.at (vs := vs) _ _ hneed (fun j hj => hv j (hk.deps j hj).1.1 (hlist j hj) (hk.deps j hj).2)
      have hdef : (putD l.toArray vs (D.getD i []) a0).defers = a0.defers := by
        have : ∀ (Dl : List Nat) (b : Act), (putD l.toArray vs Dl b).defers = b.defers := by
          intro Dl
          induction Dl with
          | nil => intro b; rfl
          | cons j js ihj => intro b; unfold putD; rw [ihj, put_defers]
        exact this _ _
      have hsame : ∀ t j, j ∈ D.getD i [] → dstOf l.toArray j = some t → a.eval (.tmp t) = (putD l.toArray vs (D.getD i []) a0).eval (.tmp t) := fun t j hjD hjt => by
        have hj := (hk.deps j hjD).1.1
        rw [ha, putN_same n hD j hj (hlist j hjD) hjt, putD_same (D.getD i []) a0 hjD hjt (fun k hk' hkj => hD j k t hj (hk.deps k hk').1.1 (fun e => hkj e.symm) hjt)]
      have hwant : Region.wanted oi (yielded l.toArray a.tmps) = Region.wanted oi (yielded l.toArray (putD l.toArray vs (D.getD i []) a0).tmps) := by
        unfold Region.wanted
        cases hgd : oi.guard with
        | none => rfl
        | some gb =>
          obtain ⟨g, b⟩ := gb
          have hgD := hk.guard g b hgd
          have : yielded l.toArray a.tmps g = yielded l.toArray (putD l.toArray vs (D.getD i []) a0).tmps g := by
            unfold yielded
            cases hdg : (l.toArray[g]?).bind (·.dst) with
            | none => rfl
            | some t =>
              simp only [Option.bind_some]
              rw [tmps_eval (by rw [ha, putN_size, putD_size]) (hsame t g hgD hdg)]
          simp only [this]
      refine wpOp_of_oneV (a1 := putD l.toArray vs (D.getD i []) a0) hoi hwant (fun cs b => Region.noSelect_spec hsel i oi cs b hoi) (fun x hx => ?_) (by rw [ha, putN_size, putD_size]) (V := vOf Vs i) (by rw [hdef]; exact hneed2) (fun v hT => ?_)
      · cases x with
        | tmp t =>
          by_cases hex : ∃ j, j < n ∧ dstOf l.toArray j = some t
          · obtain ⟨j, hj, hjt⟩ := hex
            have hjD := hk.ops t hx j hj hjt
            exact hsame t j hjD hjt
          · rw [ha, putN_other n (fun j hj _ e => hex ⟨j, hj, e⟩), putD_other _ _ (fun j hj e => hex ⟨j, (hk.deps j hj).1.1, e⟩)]
        | _ => rfl
      · refine ih (listed.setIfInBounds i true) (a.put oi.dst v) k' (fun j => if j = i then (match oi.dst with | some d => if d < a.tmps.size then v else undef | none => v) else vs j) (by have := cnt_set hun n hin; omega) (inv.set hi hin) ?_ ?_ hkm' hks'
        · have hdo : dstOf l.toArray i = oi.dst := by unfold dstOf; rw [hoi]; rfl
          have hgd : (fun j => (listed.setIfInBounds i true).getD j false) = fun j => listed.getD j false || decide (j = i) := by
            funext j
            by_cases hji : j = i
            · subst hji
              have hlt : j < listed.size := by rw [inv.size]; exact hilt
              simp [hlt]
            · rw [getD_set_ne false (fun e => hji e.symm)]; simp [hji]
          rw [hgd, putN_add _ n hD hin hfalse, ← ha, hdo]
          cases hd : oi.dst with
          | none => rfl
          | some d =>
            by_cases hlt : d < a.tmps.size
            · simp [hlt]
            · simp only [hlt, if_false, Act.put]
              rw [Array.setIfInBounds_eq_of_size_le (Nat.le_of_not_lt hlt), Array.setIfInBounds_eq_of_size_le (Nat.le_of_not_lt hlt)]
        · intro j hj hl hs
          by_cases hji : j = i
          · subst hji
            simp only [if_true]
            have hdo : dstOf l.toArray j = oi.dst := by unfold dstOf; rw [hoi]; rfl
            rw [hdo] at hs
            cases hd : oi.dst with
            | none => rw [hd] at hs; cases hs
            | some d => exact hT d hd
          · simp only [hji, if_false]
            rw [getD_set_ne false (fun e => hji e.symm)] at hl
            exact hv j hj hl hs
  have inv0 : HeadInv .any l.toArray n (Array.replicate l.toArray.size false) :=
    ⟨by simp, fun j oj _ hl => (by rw [getD_replicate_false] at hl; cases hl), fun t _ ht => getD_in (by simpa using ht) (getD_replicate_false _ _)⟩
  refine wp_region_any hm ?_
  have hcnt : ∀ k, k ≤ l.toArray.size → cnt (Array.replicate l.toArray.size false) k = k := by
    intro k
    induction k with
    | zero => intro _; rfl
    | succ k ih =>
      intro hk
      have h1 := ih (by omega)
      have h2 : (Array.replicate l.toArray.size false).getD k true = false := getD_in (by simp at hk ⊢; omega) (getD_replicate_false _ _)
      simp only [cnt, h2, if_true]
      omega
  have := key n _ a0 0 (fun _ => undef) (hcnt n (by omega)) inv0 ?_ (fun j _ hl => by rw [getD_replicate_false] at hl; cases hl) (Nat.zero_le _) (fun i j _ _ => by rw [getD_replicate_false]; simp)
  · rw [hX0] at this
    rwa [show n + (l.toArray.size - n) = l.toArray.size by omega] at this
  · have : ∀ k, putN l.toArray (fun j => (Array.replicate l.toArray.size false).getD j false) (fun _ => undef) a0 k = a0 := by
      intro k
      induction k with
      | zero => rfl
      | succ k ih => rw [putN_succ, getD_replicate_false, ih]; rfl
    exact (this n).symm
end
end Grow
end Go.Proofs.YtacchooggifnhaaDoor
