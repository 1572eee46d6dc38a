/- A region that draws its order; one of its first operations may write an old block, the others make memory grow; then a tail. No program stands in it. Printed by gen_growb.py. Rows of values that the program's reader makes, each on blocks of its own. Printed by gen_rdi.py. Plain: what a step leaves is no longer than what it had. -/
import Derived.Test.YtbhcfmdogdaodaaGreatDoorRz14
import Derived.Test.YtbhcfmdogdaodaaGreatDoorRz13
import Derived.Maps.AppendAt
import Derived.Test.YtbhcfmdogdaodaaGreatDoorRz06
namespace Go.Proofs.YtbhcfmdogdaodaaGreatDoor
open Go.RowKit
namespace GrowB
open Grow hiding OpPost HeadOk HeadOk.get wpOp_of_one
section
variable {P : Program} {rB : Option Nat} {c : Nat}
/-- memory grew; or, too, the one block may have been written -/
def Rl (fl : Bool) (rB : Option Nat) (w w' : World) : Prop := if fl = true then w.grownBy w' rB else Below w.heap.size w w'
theorem Rl.grown {fl : Bool} {w w' : World} (h : Rl fl rB w w') : w.grownBy w' rB := by
  unfold Rl at h
  split at h
  · exact h
  · exact ⟨h.os, h.tape, h.output, h.size, fun k hk _ => h.block k hk⟩
theorem Rl.below {fl : Bool} {w w' : World} (h : Rl fl rB w w') (hf : fl = false) : Below w.heap.size w w' := by
  unfold Rl at h
  rw [if_neg (by simp [hf])] at h
  exact h
/-- what is asked of one operation's walk -/
def OpPost (fl : Bool) (rB : Option Nat) (o : Oper) (T : TP) (w : World) (ds : List Deferred) : Exit → Act → World → Prop
  | .normal, a', w' => (match o.dst with | some d => T.p w' (a'.eval (.tmp d)) | none => True) ∧ Rl fl rB w w' ∧ a'.defers = ds
  | _, _, _ => False
def HeadOk (c : Nat) (rB : Option Nat) (P : Program) (ops : Array Oper) (Ts : List TP) (w : World) (a0 : Act) (D : List (List Nat)) : List Oper → Nat → Prop
  | [], _ => True
  | o :: l, i => (∀ w', Rl (!decide (i = c)) rB w w' → Need ops Ts w' (fun a => wpList P ops (OpPost (decide (i = c)) rB o (Ts.getD i TP.any) w' a0.defers) [o] a w') (D.getD i []) a0) ∧ HeadOk c rB P ops Ts w a0 D l (i + 1)
theorem HeadOk.get {ops : Array Oper} {Ts : List TP} {w : World} {a0 : Act} {D : List (List Nat)} : ∀ (l : List Oper) (k : Nat), HeadOk c rB P ops Ts w a0 D l k → ∀ j o, l[j]? = some o → ∀ w', Rl (!decide (k + j = c)) rB w w' → Need ops Ts w' (fun a => wpList P ops (OpPost (decide (k + j = c)) rB o (Ts.getD (k + j) TP.any) w' a0.defers) [o] a w') (D.getD (k + j) []) a0
  | [], _, _, _, _, h => by simp at h
  | x :: l, k, h, 0, o, ho => by
    simp at ho; subst ho; exact h.1
  | x :: l, k, h, j + 1, o, ho => by
    have := HeadOk.get l (k + 1) h.2 j o (by simpa using ho)
    rw [show k + (j + 1) = k + 1 + j by omega]; exact this
/-- one operation, walked where what it waits for is there, in whatever state agrees with that -/
theorem wpOp_of_one {fl : Bool} {ops : Array Oper} {i : Nat} {o : Oper} {T : TP} {Q : Exit → Act → World → Prop} {K : Act → World → Prop} {a a1 : Act} {w : World} (ho : ops[i]? = some o) (hg : Region.wanted o (yielded ops a.tmps) = Region.wanted o (yielded ops a1.tmps)) (hsel : ∀ cs b, o.op ≠ .select cs b)
    (he : ∀ x ∈ o.op.operands, a.eval x = a1.eval x) (hsz : a.tmps.size = a1.tmps.size) (h : wpList P ops (OpPost fl rB o T w a1.defers) [o] a1 w)
    (hK : ∀ v w', (∀ d, o.dst = some d → T.p w' (if d < a.tmps.size then v else undef)) → Rl fl rB w w' → K (a.put o.dst v) w') : wpOp P ops Q i K a w := by
  have fin : ∀ v w', OpPost fl rB o T w a1.defers .normal (a1.put o.dst v) w' → K (a.put o.dst v) w' := fun v w' hp => by
    refine hK v w' (fun d hd => ?_) hp.2.1
    have h1 := hp.1
    rw [hd] at h1
    simp only [eval_put_same] at h1
    rw [hsz]; exact h1
  unfold wpOp
  simp only [ho, hg]
  unfold wpList at h
  by_cases hwd : Region.wanted o (yielded ops a1.tmps) = true
  · rw [if_pos hwd] at h ⊢
    left
    have h0 : o.wp P a1 w (OpPost fl rB o T w a1.defers .normal) (OpPost fl rB o T w a1.defers) := by
      rcases h with h | ⟨_, _, _, h⟩
      · exact h
      · exact h.elim
    unfold Oper.wp at h0 ⊢
    rw [execOp_congr o hsel he]
    generalize (execOp a1.eval o).run P w = r at *
    cases r with
    | ok n w' =>
      cases n <;> simp only [Oper.upon] at h0 ⊢
      case value v => exact fin v w' h0
      case skip => exact fin _ w' h0
      case defer d =>
        exfalso
        have h2 := h0.2.2
        rw [put_defers] at h2
        have := congrArg List.length h2
        simp at this
      case enter f args =>
        refine Calls.mono h0 fun e w'' he' => ?_
        cases e with
        | returned v => exact fin v w'' he'
        | panicked c => exact he'.elim
        | outgrown => obtain ⟨_, _, hx⟩ := he'; exact hx.elim
      case row row args => exact Rows.mono h0 fun v w'' he' => fin v w'' he'
    | halt x w' => cases x <;> simp only [Oper.upon] at h0 ⊢ <;> exact h0.elim
  · rw [if_neg hwd] at h ⊢
    unfold wpList at h
    exact fin undef w h
/-- THE LAW. l's first n operations only make the memory grow: each is walked once, in a world that has grown and where what it waits for (D) is there; then the tail. -/
theorem wp_region_growb {id : Nat} {Q : Exit → Act → World → Prop} {a0 : Act} {w : World} {l : List Oper} (n c : Nat) (Ts : List TP) (D : List (List Nat)) (hm : P.follows .mixedOrders = true) (hB : growB l.toArray n D = true)
    (hst : ∀ j, j < n → j ≠ c → ∀ w w' v, w.grownBy w' rB → (Ts.getD j TP.any).p w v → (Ts.getD j TP.any).p w' v)
    (hops : HeadOk c rB P l.toArray Ts w a0 D (l.take n) 0)
    (htail : ∀ w', w.grownBy w' rB → TailOk Ts (fun a => wpList P l.toArray Q (l.drop n) a w') w' (l.take n) 0 a0) : (Code.region id l.toArray true).wp P Q a0 w := by
  simp only [growB, headB, Bool.and_eq_true, decide_eq_true_eq, Bool.or_eq_true] at hB
  obtain ⟨⟨⟨⟨⟨hsel, hn⟩, hdist⟩, hlook⟩, hsink⟩, hseq⟩ := hB
  have hD := dists_spec hdist
  have hnl : n ≤ l.length := by simpa using hn
  have key : ∀ f (listed : Array Bool) (a : Act) (w' : World) (vs : Nat → Value), cnt listed n = f → HeadInv .any l.toArray n listed → a = putN l.toArray (fun j => listed.getD j false) vs a0 n →
      (∀ j, j < n → listed.getD j false = true → (Ts.getD j TP.any).p w' (vs j)) → w.grownBy w' rB → (listed.getD c false = false → Below w.heap.size w w') → wpAny P .any l.toArray Q (f + (l.toArray.size - n)) listed a w' := by
    intro f
    induction f with
    | zero =>
      intro listed a w' vs hc inv ha hv hb hb2
      have hall : ∀ i, i < n → listed.getD i false = true := fun i hi => by
        have h1 := cnt_zero n hc i hi
        have hlt : i < listed.size := by rw [inv.size]; omega
        simp [hlt] at h1 ⊢; exact h1
      have hls : listed = ((List.range l.toArray.size).map fun i => decide (i < n)).toArray := by
        refine Array.ext (by simp [inv.size]) (fun i h1 h2 => ?_)
        simp only [List.getElem_toArray, List.getElem_map, List.getElem_range]
        by_cases hin : i < n
        · have := hall i hin
          simp only [hin, decide_true]
          simpa [h1] using this
        · have := inv.tail i (by omega) (by rw [← inv.size]; exact h1)
          simp only [hin, decide_false]
          simpa [h1] using this
      have ht := (htail w' hb).at (vs := vs) _ _ _ (fun j hj => by
        rw [Nat.zero_add]
        have hj' : j < n := by simp at hj; omega
        exact hv j hj' (hall j hj'))
      rw [fold_putN (L := fun j => listed.getD j false) n hnl hall, ← ha] at ht
      have := wpAny_of_seq (md := .any) (Q' := Q) (l.drop n) n listed a w' (fun j => by simp [List.getElem?_drop]) (by rw [hls]; simpa using hseq) ht
      simpa using this
    | succ f ih =>
      intro listed a w' vs hc inv ha hv hb hb2
      obtain ⟨i0, hi0, hun0⟩ := cnt_pos n (by omega : cnt listed n ≠ 0)
      rw [show f + 1 + (l.toArray.size - n) = (f + (l.toArray.size - n)) + 1 by omega]
      refine ⟨fun h0 => absurd h0 (ready_some hlook inv.size i0 hi0 hun0), fun i hi => ?_⟩
      obtain ⟨hun, oi, hoi, hall⟩ := mem_ready.1 hi
      have hilt := (Array.getElem?_eq_some_iff.1 hoi).1
      have hin : i < n := by
        rcases hsink with h | ⟨h1, h2⟩
        · omega
        · rcases Nat.lt_or_ge i n with h | h
          · exact h
          · exact absurd hi (tail_waits h1 h2 (by omega) inv _ i0 rfl hi0 hun0 i h)
      obtain ⟨o, ho, hk⟩ := looks_spec hlook hin
      have : oi = o := Option.some.inj (hoi.symm.trans ho)
      subst this
      have hlist : ∀ j ∈ D.getD i [], listed.getD j false = true := fun j hj => by
        obtain ⟨oj, h1, e, he, hbd, hon⟩ := Region.waitsFor_spec (hk.deps j hj).2
        have : oj = oi := Option.some.inj (h1.symm.trans hoi)
        subst this
        rw [← hon]; exact hall e he hbd
      have hrl : Rl (!decide (0 + i = c)) rB w w' := by
        unfold Rl
        by_cases h : 0 + i = c
        · rw [if_neg (by simp [h])]
          exact hb2 (by rw [← h, Nat.zero_add]; exact getD_both hun)
        · have h' : ¬ i = c := by rwa [Nat.zero_add] at h
          rw [if_pos (by simp [h'])]
          exact hb
      have hneed := (HeadOk.get _ 0 hops i oi (by rw [List.getElem?_take_of_lt hin]; simpa using hoi) w' hrl).at (vs := vs) _ _ (fun j hj => by
        exact hv j (hk.deps j (by simpa using hj)).1 (hlist j (by simpa using hj)))
      rw [Nat.zero_add] at hneed
      have hdef : (putD l.toArray vs (D.getD i []) a0).defers = a0.defers := by
        have : ∀ (Dl : List Nat) (b : Act), (putD l.toArray vs Dl b).defers = b.defers := by
          intro Dl
          induction Dl with
          | nil => intro b; rfl
          | cons j js ihj => intro b; unfold putD; rw [ihj, put_defers]
        exact this _ _
      have hfalse : listed.getD i false = false := getD_both hun
      have hsame : ∀ t j, j ∈ D.getD i [] → dstOf l.toArray j = some t → a.eval (.tmp t) = (putD l.toArray vs (D.getD i []) a0).eval (.tmp t) := fun t j hjD hjt => by
        have hj := (hk.deps j hjD).1
        rw [ha, putN_same n hD j hj (hlist j hjD) hjt, putD_same (D.getD i []) a0 hjD hjt (fun k hk' hkj => hD j k t hj (hk.deps k hk').1 (fun e => hkj e.symm) hjt)]
      have hwant : Region.wanted oi (yielded l.toArray a.tmps) = Region.wanted oi (yielded l.toArray (putD l.toArray vs (D.getD i []) a0).tmps) := by
        unfold Region.wanted
        cases hgd : oi.guard with
        | none => rfl
        | some gb =>
          obtain ⟨g, b⟩ := gb
          have hgD := hk.guard g b hgd
          have hgl := (hk.deps g hgD).1
          have : yielded l.toArray a.tmps g = yielded l.toArray (putD l.toArray vs (D.getD i []) a0).tmps g := by
            unfold yielded
            cases hdg : (l.toArray[g]?).bind (·.dst) with
            | none => rfl
            | some t =>
              simp only [Option.bind_some]
              rw [tmps_eval (by rw [ha, putN_size, putD_size]) (hsame t g hgD hdg)]
          simp only [this]
      refine wpOp_of_one (a1 := putD l.toArray vs (D.getD i []) a0) hoi hwant (fun cs b => Region.noSelect_spec hsel i oi cs b hoi) (fun x hx => ?_) (by rw [ha, putN_size, putD_size]) (T := Ts.getD i TP.any) (by rw [hdef]; exact hneed) (fun v w'' hT hb' => ?_)
      · cases x with
        | tmp t =>
          by_cases hex : ∃ j, j < n ∧ dstOf l.toArray j = some t
          · obtain ⟨j, hj, hjt⟩ := hex
            have hjD := hk.ops t hx j hj hjt
            rw [ha, putN_same n hD j hj (hlist j hjD) hjt, putD_same (D.getD i []) a0 hjD hjt (fun k hk' hkj => hD j k t hj (hk.deps k hk').1 (fun e => hkj e.symm) hjt)]
          · rw [ha, putN_other n (fun j hj _ e => hex ⟨j, hj, e⟩), putD_other _ _ (fun j hj e => hex ⟨j, (hk.deps j hj).1, e⟩)]
        | _ => rfl
      · have hsz : a.tmps.size = a0.tmps.size := by rw [ha, putN_size]
        refine ih (listed.setIfInBounds i true) (a.put oi.dst v) w'' (fun j => if j = i then (match oi.dst with | some d => if d < a.tmps.size then v else undef | none => v) else vs j) (by have := cnt_set hun n hin; omega) (inv.set hi hin) ?_ ?_ (hb.trans (Rl.grown hb')) (fun h0 => by
          have hic : ¬ i = c := fun e => by
            subst e
            have hlt : i < listed.size := by rw [inv.size]; exact hilt
            simp [hlt] at h0
          rw [getD_set_ne false (fun e => hic e)] at h0
          exact (hb2 h0).trans (Below.mono (Rl.below hb' (by simp [hic])) hb.size))
        · have hdo : dstOf l.toArray i = oi.dst := by unfold dstOf; rw [hoi]; rfl
          have hgd : (fun j => (listed.setIfInBounds i true).getD j false) = fun j => listed.getD j false || decide (j = i) := by
            funext j
            by_cases hji : j = i
            · subst hji
              have hlt : j < listed.size := by rw [inv.size]; exact hilt
              simp [hlt]
            · rw [getD_set_ne false (fun e => hji e.symm)]; simp [hji]
          rw [hgd, putN_add _ n hD hin hfalse, ← ha, hdo]
          cases hd : oi.dst with
          | none => rfl
          | some d =>
            by_cases hlt : d < a.tmps.size
            · simp [hlt]
            · simp only [hlt, if_false, Act.put]
              rw [Array.setIfInBounds_eq_of_size_le (Nat.le_of_not_lt hlt), Array.setIfInBounds_eq_of_size_le (Nat.le_of_not_lt hlt)]
        · intro j hj hl
          by_cases hji : j = i
          · subst hji
            simp only [if_true]
            cases hd : oi.dst with
            | none => have := hk.dst; rw [hd] at this; cases this
            | some d => exact hT d hd
          · simp only [hji, if_false]
            rw [getD_set_ne false (fun e => hji e.symm)] at hl
            by_cases hic : i = c
            · exact hst j hj (fun e => hji (e.trans hic.symm)) _ _ _ (Rl.grown hb') (hv j hj hl)
            · exact (Ts.getD j TP.any).gr _ _ _ (Rl.below hb' (by simp [hic])) (hv j hj hl)
  have inv0 : HeadInv .any l.toArray n (Array.replicate l.toArray.size false) :=
    ⟨by simp, fun j oj _ hl => (by rw [getD_replicate_false] at hl; cases hl), fun t _ ht => getD_in (by simpa using ht) (getD_replicate_false _ _)⟩
  refine wp_region_any hm ?_
  have hcnt : ∀ k, k ≤ l.toArray.size → cnt (Array.replicate l.toArray.size false) k = k := by
    intro k
    induction k with
    | zero => intro _; rfl
    | succ k ih =>
      intro hk
      have h1 := ih (by omega)
      have h2 : (Array.replicate l.toArray.size false).getD k true = false := getD_in (by simp at hk ⊢; omega) (getD_replicate_false _ _)
      simp only [cnt, h2, if_true]
      omega
  have := key n _ a0 { w with drawn := w.drawn + 1 } (fun _ => undef) (hcnt n hn) inv0 ?_ (fun j _ hl => by rw [getD_replicate_false] at hl; cases hl) ⟨rfl, rfl, rfl, Nat.le_refl _, fun _ _ _ => rfl⟩ (fun _ => ⟨rfl, rfl, rfl, Nat.le_refl _, fun _ _ => rfl⟩)
  · rwa [show n + (l.toArray.size - n) = l.toArray.size by omega] at this
  · have : ∀ k, putN l.toArray (fun j => (Array.replicate l.toArray.size false).getD j false) (fun _ => undef) a0 k = a0 := by
      intro k
      induction k with
      | zero => rfl
      | succ k ih => rw [putN_succ, getD_replicate_false, ih]; rfl
    exact (this n).symm
end
end GrowB
end Go.Proofs.YtbhcfmdogdaodaaGreatDoor
namespace Go.Proofs.YtbhcfmdogdaodaaGreatDoor
open Go.RowKit
namespace Fd
open _root_.Go.Proofs.YtbhcfmdogdaodaaGreatDoor.Nm
open _root_.Go.Proofs.YtbhcfmdogdaodaaGreatDoor.Nt (RH RH.cell RH.box RH.lt RH.new RH.ext RH.fre RH.set RH.other)
open _root_.Go.Proofs.YtbhcfmdogdaodaaGreatDoor.Rw (All2 All2.get All2.length All2.mono All2.append Fresh fresh_own Kept)
open _root_.Go.Proofs.YtbhcfmdogdaodaaGreatDoor.Tx (stB)
/-- a row of the call's own, its elements on other blocks from base on -/
structure ER {α : Type} (R : World → α → List Value → Prop) (e k base : Nat) (X : World) (l : List α) (v : Value) (E : List (List Value)) : Prop where
  own : X.ownsRow base e k v l.length E.flatten
  el : All2 (fun x c => On (fun q => base ≤ q ∧ v.ownBlock ≠ some q) (fun Z => R Z x c) X) l E
section
variable {α : Type} {R : World → α → List Value → Prop} {e k base b : Nat} {X X' Y Y1 Y2 : World} {l : List α} {v v' : Value} {E : List (List Value)}
theorem ER.nil (X : World) (base : Nat) : ER R e k base X [] (.slice none 0 0) [] := ⟨World.ownsRow_nil X base e k, trivial⟩
theorem On.grownBy {D : Nat → Prop} {P : World → Prop} {r : Option Nat} (h : On D P X) (hg : X.grownBy X' r) (hr : ∀ q, q < X.heap.size → D q → some q ≠ r) : On D P X' := h.keep hg.size (fun q h1 h2 => hg.block q h1 (hr q h1 h2))
theorem ER.kept (h : ER R e k base X l v E) (hg : X.grownBy X' (some b)) (hb : b < base) : ER R e k base X' l v E :=
  ⟨World.ownsRow.kept h.own hg (.inr (fun e => by have := (World.ownsRow.lt h.own b e).1; omega)), h.el.mono (fun _ _ h1 => On.grownBy h1 hg (fun q _ h2 e => by have := Option.some.inj e; omega))⟩
theorem ER.below (h : ER R e k base X l v E) (hb : Below X.heap.size X X') : ER R e k base X' l v E := ⟨ownsRow_ext h.own hb, h.el.mono (fun _ _ h1 => On.below h1 hb)⟩
theorem ER.ge (h : ER R e k base X l v E) : ∀ q, v.ownBlock = some q → base ≤ q ∧ q < X.heap.size := fun q hq => World.ownsRow.lt h.own q hq
theorem ER.ne (h : ER R e k base X l v E) (hb : b < base) : some b ≠ v.ownBlock := fun e => by have := (h.ge b e.symm).1; omega
theorem ER.push {x : α} {c : List Value} (h : ER R e k base Y l v E) (hx : On (fun q => base ≤ q ∧ v.ownBlock ≠ some q) (fun Z => R Z x c) Y) (hsz : Y.heap.size ≤ Y1.heap.size) (hY : ∀ q, q < Y.heap.size → Y1.heap[q]? = Y.heap[q]?)
    (hown : Y2.ownsRow base e k v' (l.length + 1) (E.flatten ++ c)) (hg : Y1.grownBy Y2 v.ownBlock) (hat : v'.ownBlock = v.ownBlock ∨ v'.ownBlock = some Y1.heap.size) : ER R e k base Y2 (l ++ [x]) v' (E ++ [c]) := by
  have go : ∀ {P : World → Prop}, On (fun q => base ≤ q ∧ v.ownBlock ≠ some q) P Y → On (fun q => base ≤ q ∧ v'.ownBlock ≠ some q) P Y2 := fun {P} h1 => by
    have h2 : On (fun q => base ≤ q ∧ v'.ownBlock ≠ some q ∧ v.ownBlock ≠ some q) P Y := h1.mono (fun q hq hD => ⟨hD.1, (by
      rcases hat with hat | hat
      · rw [hat]; exact hD.2
      · rw [hat]; intro e; have := Option.some.inj e; omega), hD.2⟩)
    have h3 := h2.keep (w' := Y2) (Nat.le_trans hsz hg.size) (fun q hq hD => (hg.block q (Nat.lt_of_lt_of_le hq hsz) (fun e => hD.2.2 e.symm)).trans (hY q hq))
    exact h3.mono (fun q _ hD => ⟨hD.1, hD.2.1⟩)
  exact ⟨by rw [List.length_append, List.flatten_append]; simpa using hown, All2.append (h.el.mono (fun _ _ h1 => go h1)) ⟨go hx, trivial⟩⟩
theorem all_onR {D : Nat → Prop} {w : World} : ∀ {fs : List α} {E : List (List Value)}, All2 (fun f c => On D (fun Z => R Z f c) w) fs E → On D (fun Z => All2 (R Z) fs E) w
  | [], [], _ => fun _ _ => trivial
  | _ :: _, _ :: _, h => fun Z hZ => ⟨h.1 Z hZ, all_onR h.2 Z hZ⟩
  | [], _ :: _, h => h.elim
  | _ :: _, [], h => h.elim
theorem ER.on (h : ER R e k base X l v E) : On (fun q => base ≤ q) (fun Z => Sl Z v l.length E.flatten ∧ All2 (R Z) l E) X := fun Z hZ =>
  ⟨fresh_own h.own Z (fun q h1 h2 => hZ q h2 h1), all_onR (h.el.mono (fun _ _ h1 => h1.mono (fun _ _ h2 => h2.1))) Z hZ⟩
end
/-- what value answers: a value on new blocks -/
def ValPost (s : ByteArray) (rb : Nat) (i : Int) (w : World) (x : Res V) (e : Ending) (w' : World) : Prop := ∃ (v : V) (c : List Value), e = .returned (.agg c.toArray) ∧ On (fun q => w.heap.size ≤ q) (fun Z => RepV Z v c) w' ∧ (∀ u r, x = .ok u r → v = u) ∧ AftS s rb i w w' x
/-- value, at all texts with fewer steps left -/
def ValAt (s : ByteArray) (rb : Nat) (i : Int) (f : Nat) : Prop := ∀ (a : Nat) (w : World), RD w rb s a 0 i → a ≤ s.size → 2 * (s.size - a) + 1 ≤ f → Calls Tryz.prog 8 #[.pointer (some ⟨rb, 0, none⟩)] w (ValPost s rb i w (valP f (dr s a)))
theorem vI5 : (Tryz.prog.info? 25).map (fun i => (i.zero, i.size, i.bytes)) = some (some (.agg #[.int .i64 0, .int .i64 0, .string ByteArray.empty, .slice none 0 0, .slice none 0 0]), 5, 80) := by kernel_rfl
theorem wpList_append_it {ops : Array Oper} {rest : List Oper} {o : Oper} {a : Act} {Q : Exit → Act → World → Prop} {Y : World} (hgd : o.guard = none) (s x : Operand)
    (ho : o.op = .call { callee := .builtin .append, args := #[s, x], argTypes := #[22, 22] })
    {base : Nat} {l : List V} {v : Value} {E : List (List Value)} {y : V} {c : List Value} {B : Nat} {tB : TypeId} (hs : a.eval s = v) (hx : a.eval x = .slice (some ⟨B, 0, none⟩) 1 1) (hO : ER RepV 25 5 base Y l v E)
    (hy : On (fun q => base ≤ q ∧ v.ownBlock ≠ some q) (fun Z => RepV Z y c) Y) (hB : RH Y B c.toArray tB) (hbase : base ≤ Y.heap.size) (hn : l.length ≤ 1000000)
    (h : ∀ a7 LN c7 Y2, ER RepV 25 5 base Y2 (l ++ [y]) (.slice a7 LN c7) (E ++ [c]) → Y.grownBy Y2 v.ownBlock → wpList Tryz.prog ops Q rest (a.put o.dst (.slice a7 LN c7)) Y2) : wpList Tryz.prog ops Q (o :: rest) a Y := by
  obtain ⟨J, hJ⟩ : ∃ i, Tryz.prog.info? 25 = some i := by
    cases hq : Tryz.prog.info? 25 with
    | none => have := vI5; rw [hq] at this; cases this
    | some i => exact ⟨i, rfl⟩
  have hci := vI5
  rw [hJ] at hci
  simp only [Option.map_some, Option.some.injEq, Prod.mk.injEq] at hci
  obtain ⟨hz1, hz2, hz3⟩ := hci
  have hl : c.length = 5 := RepV.len hy.now
  have hcB : ∀ (j : Nat) (u : Value), c[j]? = some u → Y.cell? ((⟨B, 0, none⟩ : Addr).add j) = some u := fun j u hu => by
    rw [add_spot, Nat.zero_add, hB.cell]; exact (List.getElem?_toArray).trans hu
  refine wpList_append_own_at _ hgd s x _ ho base _ J _ 5 80 Tryz.underlying22 hJ hz1 hz2 hz3 rfl (by decide) v l.length E.flatten hs hO.own ⟨B, 0, none⟩ 1 1 c hx (by rw [hl]) hcB (RepV.one hy.now) (by unfold maxLen; omega) (by omega) hbase ?_
  intro v' Y2 g1 g2 _ g3
  have hE := hO.push hy (Nat.le_refl _) (fun _ _ => rfl) g1 g2 g3
  obtain ⟨a7, c7, rfl, _⟩ := Sl.ofOwn hE.own
  exact h a7 _ c7 Y2 hE g2
end Fd
end Go.Proofs.YtbhcfmdogdaodaaGreatDoor
namespace Go.Proofs.YtbhcfmdogdaodaaGreatDoor
namespace Fd
open _root_.Go.Proofs.YtbhcfmdogdaodaaGreatDoor.Tx _root_.Go.Proofs.YtbhcfmdogdaodaaGreatDoor.Nm
theorem bind_ok {α β : Type} {x : Res α} {f : α → List UInt8 → Res β} {v : β} {r : List UInt8} (h : x.bind f = .ok v r) : ∃ u q, x = .ok u q ∧ f u q = .ok v r := by
  cases x with
  | ok u q => exact ⟨u, q, rfl, h⟩
  | bad q e => cases h
theorem skipW_len : ∀ l : List UInt8, (skipW l).length ≤ l.length
  | [] => Nat.le_refl _
  | c :: r => by
    rw [skipW]
    split
    · have := skipW_len r
      rw [List.length_cons]; omega
    · exact Nat.le_refl _
theorem signP_len {c : UInt8} {l r : List UInt8} {v : Unit} (h : signP c l = .ok v r) : r.length + 1 = l.length := by
  cases l with
  | nil => cases h
  | cons b q =>
    rw [signP] at h
    split at h
    · cases h; rfl
    · cases h
theorem wordP_len : ∀ (w l : List UInt8) {v : Unit} {r : List UInt8}, wordP w l = .ok v r → r.length + w.length = l.length
  | [], l, _, _, h => by cases h; rfl
  | c :: w, l, v, r, h => by
    rw [wordP] at h
    obtain ⟨u, q, h1, h2⟩ := bind_ok h
    have a1 := signP_len h1
    have a2 := wordP_len w q h2
    rw [List.length_cons]; omega
theorem digP_len (most : Nat) : ∀ (l : List UInt8) (n k : Nat) {v : Nat × Nat} {r : List UInt8}, digP most n k l = .ok v r → r.length ≤ l.length
  | [], n, k, v, r, h => by
    rw [digP] at h
    split at h
    · cases h
    · cases h; exact Nat.le_refl _
  | c :: l, n, k, v, r, h => by
    rw [digP] at h
    split at h
    · split at h
      · cases h
      · have := digP_len most l _ _ h
        rw [List.length_cons]; omega
    · split at h
      · cases h
      · cases h; exact Nat.le_refl _
theorem fracP_len {n : Nat} {l : List UInt8} {v : Nat} {r : List UInt8} (h : fracP n l = .ok v r) : r.length ≤ l.length := by
  cases l with
  | nil => cases h; exact Nat.le_refl _
  | cons c q =>
    rw [fracP] at h
    split at h
    · obtain ⟨u, t, h1, h2⟩ := bind_ok h
      have := digP_len 3 q 0 0 h1
      cases h2
      rw [List.length_cons]; omega
    · cases h; exact Nat.le_refl _
theorem wholeP_len {l : List UInt8} {v : Nat} {r : List UInt8} (h : wholeP l = .ok v r) : r.length ≤ l.length := by
  cases l with
  | nil => cases h
  | cons c q =>
    simp only [wholeP] at h
    split at h
    · split at h
      · cases h; simp
      · split at h
        · cases h
        · cases h; simp
    · obtain ⟨u, t, h1, h2⟩ := bind_ok h
      have := digP_len 12 (c :: q) 0 0 h1
      cases h2
      exact this
theorem numP_len {l : List UInt8} {v : Int} {r : List UInt8} (h : numP l = .ok v r) : r.length ≤ l.length := by
  cases l with
  | nil => cases h
  | cons c q =>
    rw [numP] at h
    split at h
    · obtain ⟨u, t, h1, h2⟩ := bind_ok h
      obtain ⟨u2, t2, h3, h4⟩ := bind_ok h2
      have a1 := wholeP_len h1
      have a2 := fracP_len h3
      cases h4
      rw [List.length_cons]; omega
    · obtain ⟨u, t, h1, h2⟩ := bind_ok h
      obtain ⟨u2, t2, h3, h4⟩ := bind_ok h2
      have a1 := wholeP_len h1
      have a2 := fracP_len h3
      cases h4
      omega
theorem hexP_le : ∀ (k n : Nat) (l : List UInt8) (m : Nat) (q : List UInt8), hexP k n l = .ok m q → q.length ≤ l.length
  | 0, n, l, m, q, h => by rw [hexP] at h; cases h; exact Nat.le_refl _
  | k + 1, n, [], m, q, h => by rw [hexP] at h; cases h
  | k + 1, n, c :: r, m, q, h => by
    rw [hexP] at h
    cases hd : hexd c with
    | none => rw [hd] at h; cases h
    | some d =>
      rw [hd] at h
      have := hexP_le k _ r m q h
      rw [List.length_cons]; omega
theorem escP_lt {l : List UInt8} {v : UInt8} {q : List UInt8} (h : escP l = .ok v q) : q.length < l.length := by
  cases l with
  | nil => rw [escP] at h; cases h
  | cons c r =>
    rw [escP] at h
    rw [List.length_cons]
    split at h
    · cases h; omega
    · split at h
      · cases hx : hexP 4 0 r with
        | bad q' e => rw [hx] at h; cases h
        | ok n q' =>
          rw [hx] at h
          simp only at h
          split at h
          · cases h
          · cases h
            have := hexP_le _ _ _ _ _ hx
            omega
      · cases h
theorem txtP_len : ∀ (f : Nat) (acc l : List UInt8) {v r : List UInt8}, txtP f acc l = .ok v r → r.length ≤ l.length
  | 0, _, _, _, _, h => by rw [txtP] at h; cases h
  | f + 1, acc, [], v, r, h => by rw [txtP] at h; cases h
  | f + 1, acc, c :: l, v, r, h => by
    rw [txtP] at h
    rw [List.length_cons]
    split at h
    · cases h
    · split at h
      · cases h; omega
      · split at h
        · cases hx : escP l with
          | bad q e => rw [hx] at h; cases h
          | ok b q =>
            rw [hx] at h
            have a1 := escP_lt hx
            have a2 := txtP_len f _ q h
            omega
        · have := txtP_len f _ l h
          omega
theorem textP_len {l v r : List UInt8} (h : textP l = .ok v r) : r.length < l.length := by
  unfold textP at h
  obtain ⟨u, q, h1, h2⟩ := bind_ok h
  have a1 := signP_len h1
  have a2 := txtP_len _ _ _ h2
  omega
theorem moreP_len {c : UInt8} {l r : List UInt8} {v : Bool} (h : moreP c l = .ok v r) : r.length < l.length := by
  unfold moreP at h
  have a0 := skipW_len l
  cases hs : skipW l with
  | nil => rw [hs] at h; cases h
  | cons b q =>
    rw [hs] at h
    simp only at h
    rw [hs, List.length_cons] at a0
    split at h
    · cases h
      have := skipW_len q
      omega
    · split at h
      · cases h; omega
      · cases h
mutual
theorem valP_len : ∀ (f : Nat) (l : List UInt8) {v : V} {r : List UInt8}, valP f l = .ok v r → r.length ≤ l.length
  | 0, _, _, _, h => by rw [valP] at h; cases h
  | f + 1, [], v, r, h => by rw [valP] at h; cases h
  | f + 1, c :: l, v, r, h => by
    rw [valP] at h
    split at h
    · obtain ⟨u, q, h1, h2⟩ := bind_ok h
      have := wordP_len _ _ h1
      cases h2; omega
    split at h
    · obtain ⟨u, q, h1, h2⟩ := bind_ok h
      have := wordP_len _ _ h1
      cases h2; omega
    split at h
    · obtain ⟨u, q, h1, h2⟩ := bind_ok h
      have := wordP_len _ _ h1
      cases h2; omega
    split at h
    · obtain ⟨u, q, h1, h2⟩ := bind_ok h
      have := textP_len h1
      cases h2; omega
    split at h
    · have a0 := skipW_len l
      rw [List.length_cons]
      cases hs : skipW l with
      | nil =>
        rw [hs] at h
        obtain ⟨u, q, h1, h2⟩ := bind_ok h
        have := elsP_len f [] [] h1
        cases h2
        rw [List.length_nil] at this; omega
      | cons b q =>
        rw [hs] at h
        simp only at h
        rw [hs, List.length_cons] at a0
        split at h
        · cases h; omega
        · obtain ⟨u, t, h1, h2⟩ := bind_ok h
          have := elsP_len f [] (b :: q) h1
          cases h2
          rw [List.length_cons] at this; omega
    split at h
    · have a0 := skipW_len l
      rw [List.length_cons]
      cases hs : skipW l with
      | nil =>
        rw [hs] at h
        obtain ⟨u, q, h1, h2⟩ := bind_ok h
        have := fldP_len f [] [] h1
        cases h2
        rw [List.length_nil] at this; omega
      | cons b q =>
        rw [hs] at h
        simp only at h
        rw [hs, List.length_cons] at a0
        split at h
        · cases h; omega
        · obtain ⟨u, t, h1, h2⟩ := bind_ok h
          have := fldP_len f [] (b :: q) h1
          cases h2
          rw [List.length_cons] at this; omega
    split at h
    · obtain ⟨u, q, h1, h2⟩ := bind_ok h
      have := numP_len h1
      cases h2; omega
    · cases h
theorem elsP_len : ∀ (f : Nat) (acc : List V) (l : List UInt8) {v : List V} {r : List UInt8}, elsP f acc l = .ok v r → r.length ≤ l.length
  | 0, _, _, _, _, h => by rw [elsP] at h; cases h
  | f + 1, acc, l, v, r, h => by
    rw [elsP] at h
    cases h1 : valP f l with
    | bad q e => rw [h1] at h; cases h
    | ok x q =>
      rw [h1] at h
      simp only at h
      have a1 := valP_len f l h1
      cases h2 : moreP 93 q with
      | bad t e => rw [h2] at h; cases h
      | ok b t =>
        rw [h2] at h
        have a2 := moreP_len h2
        cases b with
        | true =>
          have := elsP_len f _ t h
          omega
        | false => cases h; omega
theorem fldP_len : ∀ (f : Nat) (acc : List F) (l : List UInt8) {v : List F} {r : List UInt8}, fldP f acc l = .ok v r → r.length ≤ l.length
  | 0, _, _, _, _, h => by rw [fldP] at h; cases h
  | f + 1, acc, l, v, r, h => by
    rw [fldP] at h
    cases h0 : textP l with
    | bad q e => rw [h0] at h; cases h
    | ok nm q =>
      rw [h0] at h
      simp only at h
      have a0 := textP_len h0
      split at h
      · cases h
      · cases h1 : signP 58 (skipW q) with
        | bad t e => rw [h1] at h; cases h
        | ok _ t =>
          rw [h1] at h
          simp only at h
          have a1 := signP_len h1
          have a2 := skipW_len q
          cases h3 : valP f (skipW t) with
          | bad u e => rw [h3] at h; cases h
          | ok x u =>
            rw [h3] at h
            simp only at h
            have a3 := valP_len f _ h3
            have a4 := skipW_len t
            cases h5 : moreP 125 u with
            | bad y e => rw [h5] at h; cases h
            | ok b y =>
              rw [h5] at h
              have a5 := moreP_len h5
              cases b with
              | true =>
                have := fldP_len f _ y h
                omega
              | false => cases h; omega
end
end Fd
end Go.Proofs.YtbhcfmdogdaodaaGreatDoor
