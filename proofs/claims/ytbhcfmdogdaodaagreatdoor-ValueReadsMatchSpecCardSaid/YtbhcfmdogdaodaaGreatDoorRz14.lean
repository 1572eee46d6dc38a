/- A region that draws its order, whose operations but for a tail only make the memory grow: each operation is walked once, whatever the order. No program stands in it. A region that draws its order, with a tail of two operations, and between them one that yields in whatever world. No program stands in it. Printed by gen_growp.py. -/
import Derived.Test.YtbhcfmdogdaodaaGreatDoorRz02
import Derived.StillTail
namespace Go.Proofs.YtbhcfmdogdaodaaGreatDoor
open Go.RowKit
/-- what a temporary holds, in a world and in all that grow from it -/
structure TP where
  p : World → Value → Prop
  gr : ∀ w w' v, Below w.heap.size w w' → p w v → p w' v
def TP.any : TP := ⟨fun _ _ => True, fun _ _ _ _ h => h⟩
def TP.eq (c : Value) : TP := ⟨fun _ v => v = c, fun _ _ _ _ h => h⟩
/-- a new block that reads as A and may be written -/
def TP.new (B : Nat) (A : Array Value) : TP := ⟨fun w v => ∃ g, v = .pointer (some ⟨g, 0, none⟩) ∧ B ≤ g ∧ Box w g A ∧ Fre w g, fun _ _ _ hb ⟨g, h1, h2, h3, h4⟩ => ⟨g, h1, h2, h3.ext hb, h4.ext h3 hb⟩⟩
namespace Grow
section
variable {P : Program}
def dstOf (ops : Array Oper) (j : Nat) : Option Tmp := (ops[j]?).bind (·.dst)
def putN (ops : Array Oper) (L : Nat → Bool) (vs : Nat → Value) (a : Act) : Nat → Act
  | 0 => a
  | k + 1 => if L k then (putN ops L vs a k).put (dstOf ops k) (vs k) else putN ops L vs a k
theorem putN_succ (ops : Array Oper) (L : Nat → Bool) (vs : Nat → Value) (a : Act) (k : Nat) : putN ops L vs a (k + 1) = if L k then (putN ops L vs a k).put (dstOf ops k) (vs k) else putN ops L vs a k := rfl
theorem put_defers (a : Act) (d : Option Tmp) (v : Value) : (a.put d v).defers = a.defers := by cases d <;> rfl
theorem put_size (a : Act) (d : Option Tmp) (v : Value) : (a.put d v).tmps.size = a.tmps.size := by
  cases d <;> simp [Act.put]
theorem putN_size {ops : Array Oper} {L : Nat → Bool} {vs : Nat → Value} {a : Act} (n : Nat) : (putN ops L vs a n).tmps.size = a.tmps.size := by
  induction n with
  | zero => rfl
  | succ k ih => unfold putN; split <;> simp [put_size, ih]
theorem eval_put_same (a : Act) (t : Tmp) (v : Value) : (a.put (some t) v).eval (.tmp t) = if t < a.tmps.size then v else undef := by
  simp only [Act.put, Act.eval, Array.getD_eq_getD_getElem?, Array.getElem?_setIfInBounds]
  by_cases h : t < a.tmps.size <;> simp [h]
theorem eval_put_other (a : Act) {d : Option Tmp} {t : Tmp} (v : Value) (h : d ≠ some t) : (a.put d v).eval (.tmp t) = a.eval (.tmp t) :=
  Act.eval_put (fun e he hx => h (by rw [he]; injection hx with hx; rw [hx]))
theorem putN_other {ops : Array Oper} {L : Nat → Bool} {vs : Nat → Value} {a : Act} {t : Tmp} : ∀ n, (∀ j, j < n → L j = true → dstOf ops j ≠ some t) → (putN ops L vs a n).eval (.tmp t) = a.eval (.tmp t)
  | 0, _ => rfl
  | k + 1, h => by
    unfold putN
    have ih := putN_other (L := L) (vs := vs) (a := a) k (fun j hj => h j (by omega))
    split
    · next hl => rw [eval_put_other _ _ (h k (by omega) hl)]; exact ih
    · exact ih
/-- no two operations have one temporary -/
def Dist (ops : Array Oper) (n : Nat) : Prop := ∀ i j t, i < n → j < n → i ≠ j → dstOf ops i = some t → dstOf ops j ≠ some t
theorem putN_same {ops : Array Oper} {L : Nat → Bool} {vs : Nat → Value} {a : Act} {t : Tmp} : ∀ n, Dist ops n → ∀ j, j < n → L j = true → dstOf ops j = some t → (putN ops L vs a n).eval (.tmp t) = if t < a.tmps.size then vs j else undef
  | 0, _, j, hj, _, _ => by omega
  | k + 1, hd, j, hj, hl, ht => by
    unfold putN
    by_cases hjk : j = k
    · subst hjk
      rw [if_pos hl, ht, eval_put_same, putN_size]
    · have ih := putN_same (L := L) (vs := vs) (a := a) k (fun x y t hx hy => hd x y t (by omega) (by omega)) j (by omega) hl ht
      split
      · rw [eval_put_other _ _ (hd j k t hj (by omega) hjk ht)]; exact ih
      · exact ih
theorem putN_congr {ops : Array Oper} {L L' : Nat → Bool} {vs vs' : Nat → Value} {a : Act} : ∀ n, (∀ j, j < n → L j = L' j) → (∀ j, j < n → L j = true → vs j = vs' j) → putN ops L vs a n = putN ops L' vs' a n
  | 0, _, _ => rfl
  | k + 1, h1, h2 => by
    unfold putN
    rw [putN_congr k (fun j hj => h1 j (by omega)) (fun j hj => h2 j (by omega)), ← h1 k (by omega)]
    split
    · next hl => rw [h2 k (by omega) hl]
    · rfl
theorem putN_add {ops : Array Oper} {L : Nat → Bool} {vs : Nat → Value} {a : Act} {i : Nat} (v : Value) : ∀ n, Dist ops n → i < n → L i = false →
    putN ops (fun j => L j || decide (j = i)) (fun j => if j = i then v else vs j) a n = (putN ops L vs a n).put (dstOf ops i) v
  | 0, _, h, _ => by omega
  | k + 1, hd, hi, hl => by
    by_cases hik : i = k
    · subst hik
      rw [putN_succ, if_pos (by simp), if_pos rfl, putN_succ, hl]
      simp only [Bool.false_eq_true, if_false]
      congr 1
      exact putN_congr i (fun j hj => by have : j ≠ i := by omega
                                         simp [this]) (fun j hj _ => by rw [if_neg (by omega)])
    · rw [putN_succ, putN_succ, putN_add v k (fun x y t hx hy => hd x y t (by omega) (by omega)) (by omega) hl]
      have hki : k ≠ i := fun e => hik e.symm
      have e1 : (L k || decide (k = i)) = L k := by simp [hki]
      rw [e1, if_neg hki]
      split
      · refine Act.put_comm _ _ _ (fun d hd' => ?_)
        exact hd i k d (by omega) (by omega) hik hd'
      · rfl
/-- what an operation waits for is there -/
def Need (ops : Array Oper) (Ts : List TP) (w : World) (K : Act → Prop) : List Nat → Act → Prop
  | [], a => K a
  | j :: js, a => ∀ v, (Ts.getD j TP.any).p w v → Need ops Ts w K js (a.put (dstOf ops j) v)
def putD (ops : Array Oper) (vs : Nat → Value) : List Nat → Act → Act
  | [], a => a
  | j :: js, a => putD ops vs js (a.put (dstOf ops j) (vs j))
theorem Need.at {ops : Array Oper} {Ts : List TP} {w : World} {K : Act → Prop} {vs : Nat → Value} : ∀ (D : List Nat) (a : Act), Need ops Ts w K D a → (∀ j ∈ D, (Ts.getD j TP.any).p w (vs j)) → K (putD ops vs D a)
  | [], a, h, _ => h
  | j :: js, a, h, hv => Need.at js _ (h (vs j) (hv j (by simp))) (fun i hi => hv i (by simp [hi]))
theorem putD_size {ops : Array Oper} {vs : Nat → Value} : ∀ (D : List Nat) (a : Act), (putD ops vs D a).tmps.size = a.tmps.size
  | [], _ => rfl
  | j :: js, a => by unfold putD; rw [putD_size js, put_size]
theorem putD_other {ops : Array Oper} {vs : Nat → Value} {t : Tmp} : ∀ (D : List Nat) (a : Act), (∀ j ∈ D, dstOf ops j ≠ some t) → (putD ops vs D a).eval (.tmp t) = a.eval (.tmp t)
  | [], _, _ => rfl
  | j :: js, a, h => by unfold putD; rw [putD_other js _ (fun i hi => h i (by simp [hi])), eval_put_other _ _ (h j (by simp))]
theorem putD_same {ops : Array Oper} {vs : Nat → Value} {t : Tmp} {j : Nat} : ∀ (D : List Nat) (a : Act), j ∈ D → dstOf ops j = some t → (∀ i ∈ D, i ≠ j → dstOf ops i ≠ some t) → (putD ops vs D a).eval (.tmp t) = if t < a.tmps.size then vs j else undef
  | [], _, h, _, _ => by cases h
  | i :: js, a, h, ht, hd => by
    unfold putD
    by_cases hj : j ∈ js
    · rw [putD_same js _ hj ht (fun k hk => hd k (by simp [hk])), put_size]
    · have hij : i = j := by
        rcases List.mem_cons.1 h with h | h
        · exact h.symm
        · exact absurd h hj
      subst hij
      rw [putD_other js _ (fun k hk e => hd k (by simp [hk]) (fun e' => hj (by rw [← e']; exact hk)) e), ht, eval_put_same]
/-- what is asked of one operation's walk -/
def OpPost (o : Oper) (T : TP) (w : World) (ds : List Deferred) : Exit → Act → World → Prop
  | .normal, a', w' => (match o.dst with | some d => T.p w' (a'.eval (.tmp d)) | none => True) ∧ Below w.heap.size w w' ∧ a'.defers = ds
  | _, _, _ => False
def HeadOk (P : Program) (ops : Array Oper) (Ts : List TP) (w : World) (a0 : Act) (D : List (List Nat)) : List Oper → Nat → Prop
  | [], _ => True
  | o :: l, i => (∀ w', Below w.heap.size w w' → Need ops Ts w' (fun a => wpList P ops (OpPost o (Ts.getD i TP.any) w' a0.defers) [o] a w') (D.getD i []) a0) ∧ HeadOk P ops Ts w a0 D l (i + 1)
def TailOk (Ts : List TP) (K : Act → Prop) (w : World) : List Oper → Nat → Act → Prop
  | [], _, a => K a
  | o :: l, i, a => ∀ v, (Ts.getD i TP.any).p w v → TailOk Ts K w l (i + 1) (a.put o.dst v)
theorem TailOk.nil {Ts : List TP} {K : Act → Prop} {w : World} {i : Nat} {a : Act} (h : K a) : TailOk Ts K w [] i a := h
theorem HeadOk.get {ops : Array Oper} {Ts : List TP} {w : World} {a0 : Act} {D : List (List Nat)} : ∀ (l : List Oper) (k : Nat), HeadOk P ops Ts w a0 D l k → ∀ j o, l[j]? = some o → ∀ w', Below w.heap.size w w' → Need ops Ts w' (fun a => wpList P ops (OpPost o (Ts.getD (k + j) TP.any) w' a0.defers) [o] a w') (D.getD (k + j) []) a0
  | [], _, _, _, _, h => by simp at h
  | x :: l, k, h, 0, o, ho => by
    simp at ho; subst ho; exact h.1
  | x :: l, k, h, j + 1, o, ho => by
    have := HeadOk.get l (k + 1) h.2 j o (by simpa using ho)
    rw [show k + (j + 1) = k + 1 + j by omega]; exact this
def foldPut (vs : Nat → Value) : List Oper → Nat → Act → Act
  | [], _, a => a
  | o :: l, i, a => foldPut vs l (i + 1) (a.put o.dst (vs i))
theorem TailOk.at {Ts : List TP} {K : Act → Prop} {w : World} {vs : Nat → Value} : ∀ (l : List Oper) (i : Nat) (a : Act), TailOk Ts K w l i a → (∀ j, j < l.length → (Ts.getD (i + j) TP.any).p w (vs (i + j))) → K (foldPut vs l i a)
  | [], _, _, h, _ => h
  | o :: l, i, a, h, hv => TailOk.at l (i + 1) _ (h (vs i) (by simpa using hv 0 (by simp))) (fun j hj => by have := hv (j + 1) (by simp; omega); rwa [show i + (j + 1) = i + 1 + j by omega] at this)
theorem foldPut_snoc {vs : Nat → Value} (o : Oper) : ∀ (l : List Oper) (i : Nat) (a : Act), foldPut vs (l ++ [o]) i a = (foldPut vs l i a).put o.dst (vs (i + l.length))
  | [], i, a => by simp [foldPut]
  | x :: l, i, a => by
    have := foldPut_snoc (vs := vs) o l (i + 1) (a.put x.dst (vs i))
    simp only [List.cons_append, foldPut, List.length_cons]
    rw [this, show i + (l.length + 1) = i + 1 + l.length by omega]
theorem fold_putN {l : List Oper} {vs : Nat → Value} {a : Act} {L : Nat → Bool} : ∀ n, n ≤ l.length → (∀ j, j < n → L j = true) → foldPut vs (l.take n) 0 a = putN l.toArray L vs a n
  | 0, _, _ => by simp [foldPut, putN]
  | k + 1, hk, hL => by
    rw [List.take_succ_eq_append_getElem (by omega), foldPut_snoc, fold_putN k (by omega) (fun j hj => hL j (by omega))]
    rw [putN_succ, if_pos (hL k (by omega)), show dstOf l.toArray k = l[k].dst by simp [dstOf, List.getElem?_eq_getElem (show k < l.length by omega)]]
    simp [Nat.min_eq_left (show k ≤ l.length by omega)]
/-- the region fits -/
def dists (ops : Array Oper) (n : Nat) : Bool := (List.range n).all fun i => (List.range n).all fun j => i == j || (match dstOf ops i with | some t => dstOf ops j != some t | none => true)
def looks (ops : Array Oper) (n : Nat) (D : List (List Nat)) : Bool := (List.range n).all fun i => match ops[i]? with
  | none => false
  | some o => (match o.guard with | none => true | some (g, _) => (D.getD i []).contains g) && o.dst.isSome && (o.after.all fun e => decide (e.on < i)) && ((D.getD i []).all fun j => decide (j < n) && Region.waitsFor .any ops i j) &&
      (o.op.operands.all fun x => match x with | .tmp t => (List.range n).all fun j => dstOf ops j != some t || (D.getD i []).contains j | _ => true)
def headB (ops : Array Oper) (n : Nat) (D : List (List Nat)) : Bool := Region.noSelect ops && decide (n ≤ ops.size) && dists ops n && looks ops n D
def growB (ops : Array Oper) (n : Nat) (D : List (List Nat)) : Bool :=
  headB ops n D && (decide (n = ops.size) || (Region.sinkB .any ops n && Region.chainB .any ops n)) && Region.seqB .any ops (ops.size - n) n ((List.range ops.size).map fun i => decide (i < n)).toArray
theorem dists_spec {ops : Array Oper} {n : Nat} (h : dists ops n = true) : Dist ops n := by
  intro i j t hi hj hij ht
  have h1 := List.all_eq_true.1 (List.all_eq_true.1 h i (List.mem_range.2 hi)) j (List.mem_range.2 hj)
  rw [ht] at h1
  simp only [Bool.or_eq_true, beq_iff_eq, hij, false_or, bne_iff_ne, ne_eq] at h1
  exact h1
structure LookOk (ops : Array Oper) (n : Nat) (D : List (List Nat)) (i : Nat) (o : Oper) : Prop where
  guard : ∀ g b, o.guard = some (g, b) → g ∈ D.getD i []
  dst : o.dst.isSome = true
  after : ∀ e ∈ o.after, e.on < i
  deps : ∀ j ∈ D.getD i [], j < n ∧ Region.waitsFor .any ops i j = true
  ops : ∀ t, Operand.tmp t ∈ o.op.operands → ∀ j, j < n → dstOf ops j = some t → j ∈ D.getD i []
theorem looks_spec {ops : Array Oper} {n : Nat} {D : List (List Nat)} (h : looks ops n D = true) {i : Nat} (hi : i < n) : ∃ o, ops[i]? = some o ∧ LookOk ops n D i o := by
  have h1 := List.all_eq_true.1 h i (List.mem_range.2 hi)
  cases ho : ops[i]? with
  | none => rw [ho] at h1; cases h1
  | some o =>
    rw [ho] at h1
    simp only [Bool.and_eq_true] at h1
    obtain ⟨⟨⟨⟨g1, g0⟩, g2⟩, g3⟩, g4⟩ := h1
    refine ⟨o, rfl, fun g b hgb => (by rw [hgb] at g1; exact List.contains_iff_mem.1 g1), g0, fun e he => ?_, fun j hj => ?_, fun t ht j hj hd => ?_⟩
    · have := Array.all_eq_true_iff_forall_mem.1 g2 e he; simpa using this
    · have := List.all_eq_true.1 g3 j hj; simpa using this
    · have h2 := Array.all_eq_true_iff_forall_mem.1 g4 _ ht
      have h3 := List.all_eq_true.1 h2 j (List.mem_range.2 hj)
      simp only [hd, bne_self_eq_false, Bool.false_or, List.contains_iff_mem] at h3
      exact h3
theorem tmps_eval {a b : Act} {t : Tmp} (hs : a.tmps.size = b.tmps.size) (he : a.eval (.tmp t) = b.eval (.tmp t)) : a.tmps[t]? = b.tmps[t]? := by
  simp only [Act.eval, Array.getD_eq_getD_getElem?] at he
  by_cases h : t < a.tmps.size
  · have h' : t < b.tmps.size := hs ▸ h
    rw [Array.getElem?_eq_getElem h, Array.getElem?_eq_getElem h'] at he ⊢
    simp only [Option.getD_some] at he
    rw [he]
  · rw [Array.getElem?_eq_none (Nat.le_of_not_lt h), Array.getElem?_eq_none (by rw [← hs]; exact Nat.le_of_not_lt h)]
/-- one operation, walked where what it waits for is there, in whatever state agrees with that -/
theorem wpOp_of_one {ops : Array Oper} {i : Nat} {o : Oper} {T : TP} {Q : Exit → Act → World → Prop} {K : Act → World → Prop} {a a1 : Act} {w : World} (ho : ops[i]? = some o) (hg : Region.wanted o (yielded ops a.tmps) = Region.wanted o (yielded ops a1.tmps)) (hsel : ∀ cs b, o.op ≠ .select cs b)
    (he : ∀ x ∈ o.op.operands, a.eval x = a1.eval x) (hsz : a.tmps.size = a1.tmps.size) (h : wpList P ops (OpPost o T w a1.defers) [o] a1 w)
    (hK : ∀ v w', (∀ d, o.dst = some d → T.p w' (if d < a.tmps.size then v else undef)) → Below w.heap.size w w' → K (a.put o.dst v) w') : wpOp P ops Q i K a w := by
  have fin : ∀ v w', OpPost o T w a1.defers .normal (a1.put o.dst v) w' → K (a.put o.dst v) w' := fun v w' hp => by
    refine hK v w' (fun d hd => ?_) hp.2.1
    have h1 := hp.1
    rw [hd] at h1
    simp only [eval_put_same] at h1
    rw [hsz]; exact h1
  unfold wpOp
  simp only [ho, hg]
  unfold wpList at h
  by_cases hwd : Region.wanted o (yielded ops a1.tmps) = true
  · rw [if_pos hwd] at h ⊢
    left
    have h0 : o.wp P a1 w (OpPost o T w a1.defers .normal) (OpPost o T w a1.defers) := by
      rcases h with h | ⟨_, _, _, h⟩
      · exact h
      · exact h.elim
    unfold Oper.wp at h0 ⊢
    rw [execOp_congr o hsel he]
    generalize (execOp a1.eval o).run P w = r at *
    cases r with
    | ok n w' =>
      cases n <;> simp only [Oper.upon] at h0 ⊢
      case value v => exact fin v w' h0
      case skip => exact fin _ w' h0
      case defer d =>
        exfalso
        have h2 := h0.2.2
        rw [put_defers] at h2
        have := congrArg List.length h2
        simp at this
      case enter f args =>
        refine Calls.mono h0 fun e w'' he' => ?_
        cases e with
        | returned v => exact fin v w'' he'
        | panicked c => exact he'.elim
        | outgrown => obtain ⟨_, _, hx⟩ := he'; exact hx.elim
      case row row args => exact Rows.mono h0 fun v w'' he' => fin v w'' he'
    | halt x w' => cases x <;> simp only [Oper.upon] at h0 ⊢ <;> exact h0.elim
  · rw [if_neg hwd] at h ⊢
    unfold wpList at h
    exact fin undef w h
/-- how many have not come up -/
def cnt (listed : Array Bool) : Nat → Nat
  | 0 => 0
  | k + 1 => cnt listed k + if listed.getD k true = false then 1 else 0
theorem cnt_same {listed : Array Bool} {i : Nat} : ∀ n, n ≤ i → cnt (listed.setIfInBounds i true) n = cnt listed n
  | 0, _ => rfl
  | k + 1, h => by
    have ih := cnt_same (listed := listed) (i := i) k (by omega)
    simp only [cnt, ih, getD_set_ne true (show i ≠ k by omega)]
theorem cnt_set {listed : Array Bool} {i : Nat} (hi : listed.getD i true = false) : ∀ n, i < n → cnt (listed.setIfInBounds i true) n + 1 = cnt listed n
  | 0, h => by omega
  | k + 1, h => by
    by_cases hik : i = k
    · subst hik
      have hlt : i < listed.size := by
        rcases Nat.lt_or_ge i listed.size with h' | h'
        · exact h'
        · simp [Array.getElem?_eq_none h'] at hi
      simp only [cnt, cnt_same i (Nat.le_refl _), hi]
      simp [hlt]
    · have ih := cnt_set hi k (by omega)
      simp only [cnt, getD_set_ne true hik]
      omega
theorem cnt_zero {listed : Array Bool} : ∀ n, cnt listed n = 0 → ∀ i, i < n → listed.getD i true = true
  | 0, _, i, hi => by omega
  | k + 1, h, i, hi => by
    simp only [cnt] at h
    by_cases hik : i = k
    · subst hik
      cases hx : listed.getD i true with
      | true => rfl
      | false => rw [hx] at h; simp at h
    · exact cnt_zero k (by omega) i (by omega)
theorem cnt_pos {listed : Array Bool} : ∀ n, cnt listed n ≠ 0 → ∃ i, i < n ∧ listed.getD i true = false
  | 0, h => absurd rfl h
  | k + 1, h => by
    cases hx : listed.getD k true with
    | false => exact ⟨k, by omega, hx⟩
    | true =>
      obtain ⟨i, hi, h'⟩ := cnt_pos k (by simp only [cnt, hx] at h; simpa using h)
      exact ⟨i, by omega, h'⟩
theorem ready_some {ops : Array Oper} {n : Nat} {D : List (List Nat)} {listed : Array Bool} (hl : looks ops n D = true) (hs : listed.size = ops.size) : ∀ i, i < n → listed.getD i true = false → Region.ready .any ops listed ≠ [] := by
  intro i
  induction i using Nat.strongRecOn with
  | _ i ih =>
    intro hi hun h0
    obtain ⟨o, ho, hk⟩ := looks_spec hl hi
    by_cases hall : ∀ e ∈ o.after, Region.binds .any e = true → listed.getD e.on false = true
    · have : i ∈ Region.ready .any ops listed := mem_ready.2 ⟨hun, o, ho, hall⟩
      rw [h0] at this; cases this
    · obtain ⟨e, hall⟩ := Classical.not_forall.1 hall
      obtain ⟨he, hall⟩ := Classical.not_imp.1 hall
      obtain ⟨hb, hall⟩ := Classical.not_imp.1 hall
      have hlt := hk.after e he
      have hio := (Array.getElem?_eq_some_iff.1 ho).1
      have hf : listed.getD e.on false = false := by simpa using hall
      exact ih e.on hlt (by omega) (getD_in (by omega) hf) h0
end
end Grow
end Go.Proofs.YtbhcfmdogdaodaaGreatDoor
namespace Go.Proofs.YtbhcfmdogdaodaaGreatDoor
open Go.RowKit
namespace Grow
section
variable {P : Program}
structure HeadInvP (md : Region.Mode) (ops : Array Oper) (n : Nat) (listed : Array Bool) : Prop where
  size : listed.size = ops.size
  closed : ∀ j oj, ops[j]? = some oj → j ≠ n + 1 → listed.getD j false = true → ∀ e ∈ oj.after, Region.binds md e = true → listed.getD e.on false = true
  tail : ∀ t, n ≤ t → t ≠ n + 1 → t < ops.size → listed.getD t true = false
  pl : listed.getD (n + 1) false = true
theorem HeadInvP.set {md : Region.Mode} {ops : Array Oper} {n i : Nat} {listed : Array Bool} (inv : HeadInvP md ops n listed) (hi : i ∈ Region.ready md ops listed) (hin : i < n) : HeadInvP md ops n (listed.setIfInBounds i true) := by
  obtain ⟨_, oi, hoi, hall⟩ := mem_ready.1 hi
  refine ⟨by simp [inv.size], fun j oj hj hjn hl e he hb => ?_, fun t ht htn ht' => by rw [getD_set_ne true (by omega)]; exact inv.tail t ht htn ht', getD_set_true inv.pl⟩
  by_cases hij : i = j
  · subst hij
    have : oj = oi := Option.some.inj (hj.symm.trans hoi)
    subst this
    exact getD_set_true (hall e he hb)
  · rw [getD_set_ne false hij] at hl
    exact getD_set_true (inv.closed j oj hj hjn hl e he hb)
end
end Grow
end Go.Proofs.YtbhcfmdogdaodaaGreatDoor
