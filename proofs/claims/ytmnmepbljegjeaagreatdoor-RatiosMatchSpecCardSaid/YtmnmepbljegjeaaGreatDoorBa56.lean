/- Plain: the nearest multiple, half away from 0; the text of a decimal. No program stands in it. A region that draws its order, where an operation may wait for one that is listed behind it. No program stands in it. Printed by gen_growr.py. Several new blocks at once, each of which may be written. No program stands in it. -/
import Derived.Test.YtmnmepbljegjeaaGreatDoorBa00
import Derived.Test.YtmnmepbljegjeaaGreatDoorBa20
import Derived.Test.YtmnmepbljegjeaaGreatDoorBa01
namespace Go.Proofs.YtmnmepbljegjeaaGreatDoor
namespace Nm
def dcQ (a den p : Nat) : Nat := (a * 10 ^ p + a * 10 ^ p + den) / (den + den)
theorem dcQ_ref {a den p : Nat} (h : 0 < den) : dcQ a den p = a * 10 ^ p / den + (if den ≤ a * 10 ^ p % den + a * 10 ^ p % den then 1 else 0) := by
  unfold dcQ
  generalize a * 10 ^ p = x
  have e := Nat.div_add_mod x den
  have hr := Nat.mod_lt x h
  generalize x / den = q at *
  generalize x % den = r at *
  subst e
  split
  · next hc =>
    rw [Nat.div_eq_of_lt_le]
    · rw [Nat.add_mul, Nat.one_mul, Nat.mul_add, Nat.mul_comm q den]; omega
    · rw [Nat.add_mul, Nat.add_mul, Nat.one_mul, Nat.mul_add, Nat.mul_comm q den]; omega
  · next hc =>
    rw [Nat.add_zero, Nat.div_eq_of_lt_le]
    · rw [Nat.mul_add, Nat.mul_comm q den]; omega
    · rw [Nat.add_mul, Nat.one_mul, Nat.mul_add, Nat.mul_comm q den]; omega
def dcPad (p : Nat) (l : List UInt8) : List UInt8 := List.replicate (p + 1 - l.length) 48 ++ l
def dcDot (p : Nat) (l : List UInt8) : List UInt8 := l.take (l.length - p) ++ [46] ++ l.drop (l.length - p)
def dcB (p : Nat) (l : List UInt8) : List UInt8 := if p = 0 then l else dcDot p (dcPad p l)
def dcT (neg : Bool) (p : Nat) (l : List UInt8) : List UInt8 := if neg then 45 :: dcB p l else dcB p l
theorem dcPad_len {p : Nat} {l : List UInt8} : (dcPad p l).length = max (p + 1) l.length := by
  unfold dcPad
  rw [List.length_append, List.length_replicate]; omega
theorem dcPad_big {p : Nat} {l : List UInt8} (h : p < l.length) : dcPad p l = l := by
  unfold dcPad
  rw [show p + 1 - l.length = 0 by omega]; rfl
end Nm
end Go.Proofs.YtmnmepbljegjeaaGreatDoor
namespace Go.Proofs.YtmnmepbljegjeaaGreatDoor
open Go.RowKit
namespace Grow
section
variable {P : Program}
def looksR (ops : Array Oper) (n : Nat) (D : List (List Nat)) (R : List Nat) : Bool := (List.range n).all fun i => match ops[i]? with
  | none => false
  | some o => (match o.guard with | none => true | some (g, _) => (D.getD i []).contains g) && o.dst.isSome && (o.after.all fun e => !Region.binds .any e || decide (e.on < n ∧ R.getD e.on 0 < R.getD i 0)) && ((D.getD i []).all fun j => decide (j < n) && Region.waitsFor .any ops i j) &&
      (o.op.operands.all fun x => match x with | .tmp t => (List.range n).all fun j => dstOf ops j != some t || (D.getD i []).contains j | _ => true)
def headBR (ops : Array Oper) (n : Nat) (D : List (List Nat)) (R : List Nat) : Bool := Region.noSelect ops && decide (n ≤ ops.size) && dists ops n && looksR ops n D R
def growBR (ops : Array Oper) (n : Nat) (D : List (List Nat)) (R : List Nat) : Bool :=
  headBR ops n D R && (decide (n = ops.size) || (Region.sinkB .any ops n && Region.chainB .any ops n)) && Region.seqB .any ops (ops.size - n) n ((List.range ops.size).map fun i => decide (i < n)).toArray
structure LookR (ops : Array Oper) (n : Nat) (D : List (List Nat)) (R : List Nat) (i : Nat) (o : Oper) : Prop where
  guard : ∀ g b, o.guard = some (g, b) → g ∈ D.getD i []
  dst : o.dst.isSome = true
  after : ∀ e ∈ o.after, Region.binds .any e = true → e.on < n ∧ R.getD e.on 0 < R.getD i 0
  deps : ∀ j ∈ D.getD i [], j < n ∧ Region.waitsFor .any ops i j = true
  ops : ∀ t, Operand.tmp t ∈ o.op.operands → ∀ j, j < n → dstOf ops j = some t → j ∈ D.getD i []
theorem looksR_spec {ops : Array Oper} {n : Nat} {D : List (List Nat)} {R : List Nat} (h : looksR ops n D R = true) {i : Nat} (hi : i < n) : ∃ o, ops[i]? = some o ∧ LookR ops n D R i o := by
  have h1 := List.all_eq_true.1 h i (List.mem_range.2 hi)
  cases ho : ops[i]? with
  | none => rw [ho] at h1; cases h1
  | some o =>
    rw [ho] at h1
    simp only [Bool.and_eq_true] at h1
    obtain ⟨⟨⟨⟨g1, g0⟩, g2⟩, g3⟩, g4⟩ := h1
    refine ⟨o, rfl, fun g b hgb => (by rw [hgb] at g1; exact List.contains_iff_mem.1 g1), g0, fun e he hbi => ?_, fun j hj => ?_, fun t ht j hj hd => ?_⟩
    · have := Array.all_eq_true_iff_forall_mem.1 g2 e he; rw [hbi] at this; simpa using this
    · have := List.all_eq_true.1 g3 j hj; simpa using this
    · have h2 := Array.all_eq_true_iff_forall_mem.1 g4 _ ht
      have h3 := List.all_eq_true.1 h2 j (List.mem_range.2 hj)
      simp only [hd, bne_self_eq_false, Bool.false_or, List.contains_iff_mem] at h3
      exact h3
theorem readyR_some {ops : Array Oper} {n : Nat} {D : List (List Nat)} {R : List Nat} {listed : Array Bool} (hnn : n ≤ ops.size) (hl : looksR ops n D R = true) (hs : listed.size = ops.size) : ∀ i, i < n → listed.getD i true = false → Region.ready .any ops listed ≠ [] := by
  intro i
  generalize hr : R.getD i 0 = r
  induction r using Nat.strongRecOn generalizing i with
  | _ r ih =>
    intro hi hun h0
    obtain ⟨o, ho, hk⟩ := looksR_spec hl hi
    by_cases hall : ∀ e ∈ o.after, Region.binds .any e = true → listed.getD e.on false = true
    · have : i ∈ Region.ready .any ops listed := mem_ready.2 ⟨hun, o, ho, hall⟩
      rw [h0] at this; cases this
    · obtain ⟨e, hall⟩ := Classical.not_forall.1 hall
      obtain ⟨he, hall⟩ := Classical.not_imp.1 hall
      obtain ⟨hb, hall⟩ := Classical.not_imp.1 hall
      have hlt := hk.after e he hb
      have hio := (Array.getElem?_eq_some_iff.1 ho).1
      have hf : listed.getD e.on false = false := by simpa using hall
      exact ih _ (by rw [← hr]; exact hlt.2) e.on rfl hlt.1 (getD_in (by omega) hf) h0
theorem wp_region_growr {id : Nat} {Q : Exit → Act → World → Prop} {a0 : Act} {w : World} {l : List Oper} (n : Nat) (Ts : List TP) (D : List (List Nat)) (R : List Nat) (hm : P.follows .mixedOrders = true) (hB : growBR l.toArray n D R = true)
    (hops : HeadOk P l.toArray Ts w a0 D (l.take n) 0)
    (htail : ∀ w', Below w.heap.size w w' → TailOk Ts (fun a => wpList P l.toArray Q (l.drop n) a w') w' (l.take n) 0 a0) : (Code.region id l.toArray true).wp P Q a0 w := by
  simp only [growBR, headBR, Bool.and_eq_true, decide_eq_true_eq, Bool.or_eq_true] at hB
  obtain ⟨⟨⟨⟨⟨hsel, hn⟩, hdist⟩, hlook⟩, hsink⟩, hseq⟩ := hB
  have hD := dists_spec hdist
  have hnl : n ≤ l.length := by simpa using hn
  have key : ∀ f (listed : Array Bool) (a : Act) (w' : World) (vs : Nat → Value), cnt listed n = f → HeadInv .any l.toArray n listed → a = putN l.toArray (fun j => listed.getD j false) vs a0 n →
      (∀ j, j < n → listed.getD j false = true → (Ts.getD j TP.any).p w' (vs j)) → Below w.heap.size w w' → wpAny P .any l.toArray Q (f + (l.toArray.size - n)) listed a w' := by
    intro f
    induction f with
    | zero =>
      intro listed a w' vs hc inv ha hv hb
      have hall : ∀ i, i < n → listed.getD i false = true := fun i hi => by
        have h1 := cnt_zero n hc i hi
        have hlt : i < listed.size := by rw [inv.size]; omega
        simp [hlt] at h1 ⊢; exact h1
      have hls : listed = ((List.range l.toArray.size).map fun i => decide (i < n)).toArray := by
        refine Array.ext (by simp [inv.size]) (fun i h1 h2 => ?_)
        simp only [List.getElem_toArray, List.getElem_map, List.getElem_range]
        by_cases hin : i < n
        · have := hall i hin
          simp only [hin, decide_true]
          simpa [h1] using this
        · have := inv.tail i (by omega) (by rw [← inv.size]; exact h1)
          simp only [hin, decide_false]
          simpa [h1] using this
      have ht := (htail w' hb).at (vs := vs) _ _ _ (fun j hj => by
        rw [Nat.zero_add]
        have hj' : j < n := by simp at hj; omega
        exact hv j hj' (hall j hj'))
      rw [fold_putN (L := fun j => listed.getD j false) n hnl hall, ← ha] at ht
      have := wpAny_of_seq (md := .any) (Q' := Q) (l.drop n) n listed a w' (fun j => by simp [List.getElem?_drop]) (by rw [hls]; simpa using hseq) ht
      simpa using this
    | succ f ih =>
      intro listed a w' vs hc inv ha hv hb
      obtain ⟨i0, hi0, hun0⟩ := cnt_pos n (by omega : cnt listed n ≠ 0)
      rw [show f + 1 + (l.toArray.size - n) = (f + (l.toArray.size - n)) + 1 by omega]
      refine ⟨fun h0 => absurd h0 (readyR_some hn hlook inv.size i0 hi0 hun0), fun i hi => ?_⟩
      obtain ⟨hun, oi, hoi, hall⟩ := mem_ready.1 hi
      have hilt := (Array.getElem?_eq_some_iff.1 hoi).1
      have hin : i < n := by
        rcases hsink with h | ⟨h1, h2⟩
        · omega
        · rcases Nat.lt_or_ge i n with h | h
          · exact h
          · exact absurd hi (tail_waits h1 h2 (by omega) inv _ i0 rfl hi0 hun0 i h)
      obtain ⟨o, ho, hk⟩ := looksR_spec hlook hin
      have : oi = o := Option.some.inj (hoi.symm.trans ho)
      subst this
      have hlist : ∀ j ∈ D.getD i [], listed.getD j false = true := fun j hj => by
        obtain ⟨oj, h1, e, he, hbd, hon⟩ := Region.waitsFor_spec (hk.deps j hj).2
        have : oj = oi := Option.some.inj (h1.symm.trans hoi)
        subst this
        rw [← hon]; exact hall e he hbd
      have hneed := (HeadOk.get _ 0 hops i oi (by rw [List.getElem?_take_of_lt hin]; simpa using hoi) w' hb).at (vs := vs) _ _ (fun j hj => by
        exact hv j (hk.deps j (by simpa using hj)).1 (hlist j (by simpa using hj)))
      rw [Nat.zero_add] at hneed
      have hdef : (putD l.toArray vs (D.getD i []) a0).defers = a0.defers := by
        have : ∀ (Dl : List Nat) (b : Act), (putD l.toArray vs Dl b).defers = b.defers := by
          intro Dl
          induction Dl with
          | nil => intro b; rfl
          | cons j js ihj => intro b; unfold putD; rw [ihj, put_defers]
        exact this _ _
      have hfalse : listed.getD i false = false := getD_both hun
      have hsame : ∀ t j, j ∈ D.getD i [] → dstOf l.toArray j = some t → a.eval (.tmp t) = (putD l.toArray vs (D.getD i []) a0).eval (.tmp t) := fun t j hjD hjt => by
        have hj := (hk.deps j hjD).1
        rw [ha, putN_same n hD j hj (hlist j hjD) hjt, putD_same (D.getD i []) a0 hjD hjt (fun k hk' hkj => hD j k t hj (hk.deps k hk').1 (fun e => hkj e.symm) hjt)]
      have hwant : Region.wanted oi (yielded l.toArray a.tmps) = Region.wanted oi (yielded l.toArray (putD l.toArray vs (D.getD i []) a0).tmps) := by
        unfold Region.wanted
        cases hgd : oi.guard with
        | none => rfl
        | some gb =>
          obtain ⟨g, b⟩ := gb
          have hgD := hk.guard g b hgd
          have hgl := (hk.deps g hgD).1
          have : yielded l.toArray a.tmps g = yielded l.toArray (putD l.toArray vs (D.getD i []) a0).tmps g := by
            unfold yielded
            cases hdg : (l.toArray[g]?).bind (·.dst) with
            | none => rfl
            | some t =>
              simp only [Option.bind_some]
              rw [tmps_eval (by rw [ha, putN_size, putD_size]) (hsame t g hgD hdg)]
          simp only [this]
      refine wpOp_of_one (a1 := putD l.toArray vs (D.getD i []) a0) hoi hwant (fun cs b => Region.noSelect_spec hsel i oi cs b hoi) (fun x hx => ?_) (by rw [ha, putN_size, putD_size]) (T := Ts.getD i TP.any) (by rw [hdef]; exact hneed) (fun v w'' hT hb' => ?_)
      · cases x with
        | tmp t =>
          by_cases hex : ∃ j, j < n ∧ dstOf l.toArray j = some t
          · obtain ⟨j, hj, hjt⟩ := hex
            have hjD := hk.ops t hx j hj hjt
            rw [ha, putN_same n hD j hj (hlist j hjD) hjt, putD_same (D.getD i []) a0 hjD hjt (fun k hk' hkj => hD j k t hj (hk.deps k hk').1 (fun e => hkj e.symm) hjt)]
          · rw [ha, putN_other n (fun j hj _ e => hex ⟨j, hj, e⟩), putD_other _ _ (fun j hj e => hex ⟨j, (hk.deps j hj).1, e⟩)]
        | _ => rfl
      · have hsz : a.tmps.size = a0.tmps.size := by rw [ha, putN_size]
        refine ih (listed.setIfInBounds i true) (a.put oi.dst v) w'' (fun j => if j = i then (match oi.dst with | some d => if d < a.tmps.size then v else undef | none => v) else vs j) (by have := cnt_set hun n hin; omega) (inv.set hi hin) ?_ ?_ (hb.trans (hb'.mono hb.size))
        · have hdo : dstOf l.toArray i = oi.dst := by unfold dstOf; rw [hoi]; rfl
          have hgd : (fun j => (listed.setIfInBounds i true).getD j false) = fun j => listed.getD j false || decide (j = i) := by
            funext j
            by_cases hji : j = i
            · subst hji
              have hlt : j < listed.size := by rw [inv.size]; exact hilt
              simp [hlt]
            · rw [getD_set_ne false (fun e => hji e.symm)]; simp [hji]
          rw [hgd, putN_add _ n hD hin hfalse, ← ha, hdo]
          cases hd : oi.dst with
          | none => rfl
          | some d =>
            by_cases hlt : d < a.tmps.size
            · simp [hlt]
            · simp only [hlt, if_false, Act.put]
              rw [Array.setIfInBounds_eq_of_size_le (Nat.le_of_not_lt hlt), Array.setIfInBounds_eq_of_size_le (Nat.le_of_not_lt hlt)]
        · intro j hj hl
          by_cases hji : j = i
          · subst hji
            simp only [if_true]
            cases hd : oi.dst with
            | none => have := hk.dst; rw [hd] at this; cases this
            | some d => exact hT d hd
          · simp only [hji, if_false]
            rw [getD_set_ne false (fun e => hji e.symm)] at hl
            exact (Ts.getD j TP.any).gr _ _ _ hb' (hv j hj hl)
  have inv0 : HeadInv .any l.toArray n (Array.replicate l.toArray.size false) :=
    ⟨by simp, fun j oj _ hl => (by rw [getD_replicate_false] at hl; cases hl), fun t _ ht => getD_in (by simpa using ht) (getD_replicate_false _ _)⟩
  refine wp_region_any hm ?_
  have hcnt : ∀ k, k ≤ l.toArray.size → cnt (Array.replicate l.toArray.size false) k = k := by
    intro k
    induction k with
    | zero => intro _; rfl
    | succ k ih =>
      intro hk
      have h1 := ih (by omega)
      have h2 : (Array.replicate l.toArray.size false).getD k true = false := getD_in (by simp at hk ⊢; omega) (getD_replicate_false _ _)
      simp only [cnt, h2, if_true]
      omega
  have := key n _ a0 { w with drawn := w.drawn + 1 } (fun _ => undef) (hcnt n hn) inv0 ?_ (fun j _ hl => by rw [getD_replicate_false] at hl; cases hl) ⟨rfl, rfl, rfl, Nat.le_refl _, fun _ _ => rfl⟩
  · rwa [show n + (l.toArray.size - n) = l.toArray.size by omega] at this
  · have : ∀ k, putN l.toArray (fun j => (Array.replicate l.toArray.size false).getD j false) (fun _ => undef) a0 k = a0 := by
      intro k
      induction k with
      | zero => rfl
      | succ k ih => rw [putN_succ, getD_replicate_false, ih]; rfl
    exact (this n).symm
end
end Grow
end Go.Proofs.YtmnmepbljegjeaaGreatDoor
namespace Go.Proofs.YtmnmepbljegjeaaGreatDoor
open Go.RowKit
theorem wp_box2f {P : Program} {c : Code} {Q : Exit → Act → World → Prop} {a : Act} {w : World} {A B : Array Value} {t u : TypeId}
    (h : ∀ W, W.heap.size = w.heap.size + 2 → Below w.heap.size w W → Box W w.heap.size A → Fre W w.heap.size → Box W (w.heap.size + 1) B → Fre W (w.heap.size + 1) → c.wp P Q a W) : c.wp P Q a ((w.alloc (.cells A t)).alloc (.cells B u)) := by
  have b1 := Box.new w A t
  have f1 := Fre.new w A t
  have hb : Below (w.alloc (.cells A t)).heap.size (w.alloc (.cells A t)) ((w.alloc (.cells A t)).alloc (.cells B u)) := ext_alloc _ _
  refine h _ (by simp) (by go_grown) (b1.ext hb) (f1.ext b1 hb) ?_ ?_
  · have := Box.new (w.alloc (.cells A t)) B u
    simpa using this
  · have := Fre.new (w.alloc (.cells A t)) B u
    simpa using this
theorem wp_box3f {P : Program} {c : Code} {Q : Exit → Act → World → Prop} {a : Act} {w : World} {A B C : Array Value} {t u v : TypeId}
    (h : ∀ W, W.heap.size = w.heap.size + 3 → Below w.heap.size w W → Box W w.heap.size A → Fre W w.heap.size → Box W (w.heap.size + 1) B → Fre W (w.heap.size + 1) → Box W (w.heap.size + 2) C → Fre W (w.heap.size + 2) → c.wp P Q a W) : c.wp P Q a (((w.alloc (.cells A t)).alloc (.cells B u)).alloc (.cells C v)) := by
  have b1 := Box.new w A t
  have f1 := Fre.new w A t
  have hb : Below (w.alloc (.cells A t)).heap.size (w.alloc (.cells A t)) ((w.alloc (.cells A t)).alloc (.cells B u)) := ext_alloc _ _
  have hb2 : Below ((w.alloc (.cells A t)).alloc (.cells B u)).heap.size ((w.alloc (.cells A t)).alloc (.cells B u)) (((w.alloc (.cells A t)).alloc (.cells B u)).alloc (.cells C v)) := ext_alloc _ _
  have b2 : Box ((w.alloc (.cells A t)).alloc (.cells B u)) (w.heap.size + 1) B := by
    have := Box.new (w.alloc (.cells A t)) B u
    simpa using this
  have f2 : Fre ((w.alloc (.cells A t)).alloc (.cells B u)) (w.heap.size + 1) := by
    have := Fre.new (w.alloc (.cells A t)) B u
    simpa using this
  refine h _ (by simp) (by go_grown) ((b1.ext hb).ext hb2) ((f1.ext b1 hb).ext (b1.ext hb) hb2) (b2.ext hb2) (f2.ext b2 hb2) ?_ ?_
  · have := Box.new ((w.alloc (.cells A t)).alloc (.cells B u)) C v
    simpa using this
  · have := Fre.new ((w.alloc (.cells A t)).alloc (.cells B u)) C v
    simpa using this
end Go.Proofs.YtmnmepbljegjeaaGreatDoor
