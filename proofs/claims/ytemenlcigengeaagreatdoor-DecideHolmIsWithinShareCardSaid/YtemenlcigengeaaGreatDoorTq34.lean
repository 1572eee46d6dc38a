/- A region that draws its order and makes several new blocks: they differ. No program stands in it. Printed by gen_grow2.py from XGrow. Two new blocks written: what lies there then. Product of the reference. Printed by gen_rrat7.py. Order of package value. -/
import Derived.Test.YtemenlcigengeaaGreatDoorTq31
import Derived.Test.YtemenlcigengeaaGreatDoorTq33
import Derived.Test.YtemenlcigengeaaGreatDoorTq20
import Derived.Test.YtemenlcigengeaaGreatDoorTq32
namespace Go.Proofs.YtemenlcigengeaaGreatDoor
open Go.RowKit
namespace Grow
section
variable {P : Program}
/-- what an operation gives: a known thing, or a block made new -/
inductive TQ where
  | is (T : TP)
  | new (A : Array Value)
def TQ.at (B : Nat) : TQ → TP
  | .is T => T
  | .new A => TP.new B A
def TQ.isNew : TQ → Bool
  | .is _ => false
  | .new _ => true
def tpAt (B : Nat) (Ts : List TQ) (j : Nat) : TP := (Ts.getD j (.is TP.any)).at B
def newB (Ts : List TQ) (j : Nat) : Bool := (Ts.getD j (.is TP.any)).isNew
theorem tpAt_mono {B B' : Nat} {Ts : List TQ} {j : Nat} {w : World} {v : Value} (hB : B ≤ B') (h : (tpAt B' Ts j).p w v) : (tpAt B Ts j).p w v := by
  unfold tpAt at h ⊢
  cases he : Ts.getD j (.is TP.any) with
  | is T => rw [he] at h; exact h
  | new A => rw [he] at h; obtain ⟨g, h1, h2, h3⟩ := h; exact ⟨g, h1, Nat.le_trans hB h2, h3⟩
theorem tpAt_new' {B : Nat} {Ts : List TQ} {j : Nat} {w : World} {v : Value} (hn : newB Ts j = true) (h : (tpAt B Ts j).p w v) : ∃ g, v = .pointer (some ⟨g, 0, none⟩) ∧ g < w.heap.size ∧ B ≤ g := by
  unfold tpAt at h
  unfold newB at hn
  cases he : Ts.getD j (.is TP.any) with
  | is T => rw [he] at hn; cases hn
  | new A => rw [he] at h; obtain ⟨g, h1, h2, h3, _⟩ := h; exact ⟨g, h1, h3.1, h2⟩
theorem tpAt_new {B : Nat} {Ts : List TQ} {j : Nat} {w : World} {v : Value} (hn : newB Ts j = true) (h : (tpAt B Ts j).p w v) : ∃ g, v = .pointer (some ⟨g, 0, none⟩) ∧ g < w.heap.size := by
  obtain ⟨g, h1, h2, _⟩ := tpAt_new' hn h
  exact ⟨g, h1, h2⟩
def basesOf (B : Nat) (Ts : List TQ) : List TP := Ts.map (·.at B)
theorem basesOf_get (B : Nat) (Ts : List TQ) (j : Nat) : (basesOf B Ts).getD j TP.any = tpAt B Ts j := by
  unfold basesOf tpAt
  simp only [List.getD_eq_getElem?_getD, List.getElem?_map]
  cases Ts[j]? <;> rfl
def HeadOk2 (P : Program) (ops : Array Oper) (Ts : List TQ) (w : World) (a0 : Act) (D : List (List Nat)) : List Oper → Nat → Prop
  | [], _ => True
  | o :: l, i => (∀ w', Below w.heap.size w w' → Need ops (basesOf w.heap.size Ts) w' (fun a => wpList P ops (OpPost o (tpAt w'.heap.size Ts i) w' a0.defers) [o] a w') (D.getD i []) a0) ∧ HeadOk2 P ops Ts w a0 D l (i + 1)
theorem HeadOk2.get {ops : Array Oper} {Ts : List TQ} {w : World} {a0 : Act} {D : List (List Nat)} : ∀ (l : List Oper) (k : Nat), HeadOk2 P ops Ts w a0 D l k → ∀ j o, l[j]? = some o → ∀ w', Below w.heap.size w w' → Need ops (basesOf w.heap.size Ts) w' (fun a => wpList P ops (OpPost o (tpAt w'.heap.size Ts (k + j)) w' a0.defers) [o] a w') (D.getD (k + j) []) a0
  | [], _, _, _, _, h => by simp at h
  | x :: l, k, h, 0, o, ho => by
    simp at ho; subst ho; exact h.1
  | x :: l, k, h, j + 1, o, ho => by
    have := HeadOk2.get l (k + 1) h.2 j o (by simpa using ho)
    rw [show k + (j + 1) = k + 1 + j by omega]; exact this
def TailOk2 (Ts : List TQ) (B : Nat) (K : List Value → Act → Prop) (w : World) : List Oper → Nat → Act → List Value → Prop
  | [], _, a, vs => K vs a
  | o :: l, i, a, vs => ∀ v, (tpAt B Ts i).p w v → TailOk2 Ts B K w l (i + 1) (a.put o.dst v) (vs ++ [v])
theorem getD_map_range {m k : Nat} {f : Nat → Value} (h : k < m) : ((List.range m).map f).getD k undef = f k := by
  simp [List.getD_eq_getElem?_getD, h]
theorem TailOk2.at {Ts : List TQ} {B : Nat} {K : List Value → Act → Prop} {w : World} {vs : Nat → Value} : ∀ (l : List Oper) (i : Nat) (a : Act) (us : List Value), TailOk2 Ts B K w l i a us → (∀ j, j < l.length → (tpAt B Ts (i + j)).p w (vs (i + j))) → K (us ++ (List.range l.length).map (fun j => vs (i + j))) (foldPut vs l i a)
  | [], _, _, us, h, _ => by simpa [foldPut, TailOk2] using h
  | o :: l, i, a, us, h, hv => by
    have := TailOk2.at l (i + 1) _ _ (h (vs i) (by simpa using hv 0 (by simp))) (fun j hj => by have := hv (j + 1) (by simp; omega); rwa [show i + (j + 1) = i + 1 + j by omega] at this)
    simp only [List.length_cons, List.range_succ_eq_map, List.map_cons, List.map_map, foldPut]
    rw [List.append_assoc, List.singleton_append] at this
    have e : (fun j => vs (i + 1 + j)) = (fun j => vs (i + j)) ∘ Nat.succ := by
      funext j; simp only [Function.comp]; congr 1; omega
    rw [e] at this
    exact this
/-- THE LAW: as wp_region_grow, and the blocks that are made new differ. -/
theorem wp_region_grow2 {id : Nat} {Q : Exit → Act → World → Prop} {a0 : Act} {w : World} {l : List Oper} (n : Nat) (Ts : List TQ) (D : List (List Nat)) (hm : P.follows .mixedOrders = true) (hB : growB l.toArray n D = true)
    (hops : HeadOk2 P l.toArray Ts w a0 D (l.take n) 0)
    (htail : ∀ w', Below w.heap.size w w' → TailOk2 Ts w.heap.size (fun vs a => (∀ i j, i < n → j < n → i ≠ j → newB Ts i = true → newB Ts j = true → vs.getD i undef ≠ vs.getD j undef) → wpList P l.toArray Q (l.drop n) a w') w' (l.take n) 0 a0 []) : (Code.region id l.toArray true).wp P Q a0 w := by
  simp only [growB, headB, Bool.and_eq_true, decide_eq_true_eq, Bool.or_eq_true] at hB
  obtain ⟨⟨⟨⟨⟨hsel, hn⟩, hdist⟩, hlook⟩, hsink⟩, hseq⟩ := hB
  have hD := dists_spec hdist
  have hnl : n ≤ l.length := by simpa using hn
  have key : ∀ f (listed : Array Bool) (a : Act) (w' : World) (vs : Nat → Value), cnt listed n = f → HeadInv .any l.toArray n listed → a = putN l.toArray (fun j => listed.getD j false) vs a0 n →
      (∀ j, j < n → listed.getD j false = true → (tpAt w.heap.size Ts j).p w' (vs j)) → (∀ i j, i < n → j < n → i ≠ j → listed.getD i false = true → listed.getD j false = true → newB Ts i = true → newB Ts j = true → vs i ≠ vs j) → Below w.heap.size w w' → wpAny P .any l.toArray Q (f + (l.toArray.size - n)) listed a w' := by
    intro f
    induction f with
    | zero =>
      intro listed a w' vs hc inv ha hv hpw hb
      have hall : ∀ i, i < n → listed.getD i false = true := fun i hi => by
        have h1 := cnt_zero n hc i hi
        have hlt : i < listed.size := by rw [inv.size]; omega
        simp [hlt] at h1 ⊢; exact h1
      have hls : listed = ((List.range l.toArray.size).map fun i => decide (i < n)).toArray := by
        refine Array.ext (by simp [inv.size]) (fun i h1 h2 => ?_)
        simp only [List.getElem_toArray, List.getElem_map, List.getElem_range]
        by_cases hin : i < n
        · have := hall i hin
          simp only [hin, decide_true]
          simpa [h1] using this
        · have := inv.tail i (by omega) (by rw [← inv.size]; exact h1)
          simp only [hin, decide_false]
          simpa [h1] using this
      have ht := TailOk2.at (vs := vs) _ _ _ _ (htail w' hb) (fun j hj => by
        rw [Nat.zero_add]
        have hj' : j < n := by simp at hj; omega
        exact hv j hj' (hall j hj'))
      rw [List.nil_append] at ht
      have ht := ht (fun i j hi hj hij h1 h2 => by
        have hlen : (l.take n).length = n := by simp; omega
        rw [getD_map_range (by omega), getD_map_range (by omega)]
        rw [Nat.zero_add, Nat.zero_add]
        exact hpw i j hi hj hij (hall i hi) (hall j hj) h1 h2)
      rw [fold_putN (L := fun j => listed.getD j false) n hnl hall, ← ha] at ht
      have := wpAny_of_seq (md := .any) (Q' := Q) (l.drop n) n listed a w' (fun j => by simp [List.getElem?_drop]) (by rw [hls]; simpa using hseq) ht
      simpa using this
    | succ f ih =>
      intro listed a w' vs hc inv ha hv hpw hb
      obtain ⟨i0, hi0, hun0⟩ := cnt_pos n (by omega : cnt listed n ≠ 0)
      rw [show f + 1 + (l.toArray.size - n) = (f + (l.toArray.size - n)) + 1 by omega]
      refine ⟨fun h0 => absurd h0 (ready_some hlook inv.size i0 hi0 hun0), fun i hi => ?_⟩
      obtain ⟨hun, oi, hoi, hall⟩ := mem_ready.1 hi
      have hilt := (Array.getElem?_eq_some_iff.1 hoi).1
      have hin : i < n := by
        rcases hsink with h | ⟨h1, h2⟩
        · omega
        · rcases Nat.lt_or_ge i n with h | h
          · exact h
          · exact absurd hi (tail_waits h1 h2 (by omega) inv _ i0 rfl hi0 hun0 i h)
      obtain ⟨o, ho, hk⟩ := looks_spec hlook hin
      have : oi = o := Option.some.inj (hoi.symm.trans ho)
      subst this
      have hlist : ∀ j ∈ D.getD i [], listed.getD j false = true := fun j hj => by
        obtain ⟨oj, h1, e, he, hbd, hon⟩ := Region.waitsFor_spec (hk.deps j hj).2
        have : oj = oi := Option.some.inj (h1.symm.trans hoi)
        subst this
        rw [← hon]; exact hall e he hbd
      have hneed := (HeadOk2.get _ 0 hops i oi (by rw [List.getElem?_take_of_lt hin]; simpa using hoi) w' hb).at (vs := vs) _ _ (fun j hj => by
        rw [basesOf_get]
        exact hv j (hk.deps j (by simpa using hj)).1 (hlist j (by simpa using hj)))
      rw [Nat.zero_add] at hneed
      have hdef : (putD l.toArray vs (D.getD i []) a0).defers = a0.defers := by
        have : ∀ (Dl : List Nat) (b : Act), (putD l.toArray vs Dl b).defers = b.defers := by
          intro Dl
          induction Dl with
          | nil => intro b; rfl
          | cons j js ihj => intro b; unfold putD; rw [ihj, put_defers]
        exact this _ _
      have hfalse : listed.getD i false = false := getD_both hun
      have hsame : ∀ t j, j ∈ D.getD i [] → dstOf l.toArray j = some t → a.eval (.tmp t) = (putD l.toArray vs (D.getD i []) a0).eval (.tmp t) := fun t j hjD hjt => by
        have hj := (hk.deps j hjD).1
        rw [ha, putN_same n hD j hj (hlist j hjD) hjt, putD_same (D.getD i []) a0 hjD hjt (fun k hk' hkj => hD j k t hj (hk.deps k hk').1 (fun e => hkj e.symm) hjt)]
      have hwant : Region.wanted oi (yielded l.toArray a.tmps) = Region.wanted oi (yielded l.toArray (putD l.toArray vs (D.getD i []) a0).tmps) := by
        unfold Region.wanted
        cases hgd : oi.guard with
        | none => rfl
        | some gb =>
          obtain ⟨g, b⟩ := gb
          have hgD := hk.guard g b hgd
          have hgl := (hk.deps g hgD).1
          have : yielded l.toArray a.tmps g = yielded l.toArray (putD l.toArray vs (D.getD i []) a0).tmps g := by
            unfold yielded
            cases hdg : (l.toArray[g]?).bind (·.dst) with
            | none => rfl
            | some t =>
              simp only [Option.bind_some]
              rw [tmps_eval (by rw [ha, putN_size, putD_size]) (hsame t g hgD hdg)]
          simp only [this]
      refine wpOp_of_one (a1 := putD l.toArray vs (D.getD i []) a0) hoi hwant (fun cs b => Region.noSelect_spec hsel i oi cs b hoi) (fun x hx => ?_) (by rw [ha, putN_size, putD_size]) (T := tpAt w'.heap.size Ts i) (by rw [hdef]; exact hneed) (fun v w'' hT hb' => ?_)
      · cases x with
        | tmp t =>
          by_cases hex : ∃ j, j < n ∧ dstOf l.toArray j = some t
          · obtain ⟨j, hj, hjt⟩ := hex
            have hjD := hk.ops t hx j hj hjt
            rw [ha, putN_same n hD j hj (hlist j hjD) hjt, putD_same (D.getD i []) a0 hjD hjt (fun k hk' hkj => hD j k t hj (hk.deps k hk').1 (fun e => hkj e.symm) hjt)]
          · rw [ha, putN_other n (fun j hj _ e => hex ⟨j, hj, e⟩), putD_other _ _ (fun j hj e => hex ⟨j, (hk.deps j hj).1, e⟩)]
        | _ => rfl
      · have hsz : a.tmps.size = a0.tmps.size := by rw [ha, putN_size]
        refine ih (listed.setIfInBounds i true) (a.put oi.dst v) w'' (fun j => if j = i then (match oi.dst with | some d => if d < a.tmps.size then v else undef | none => v) else vs j) (by have := cnt_set hun n hin; omega) (inv.set hi hin) ?_ ?_ ?_ (hb.trans (hb'.mono hb.size))
        · have hdo : dstOf l.toArray i = oi.dst := by unfold dstOf; rw [hoi]; rfl
          have hgd : (fun j => (listed.setIfInBounds i true).getD j false) = fun j => listed.getD j false || decide (j = i) := by
            funext j
            by_cases hji : j = i
            · subst hji
              have hlt : j < listed.size := by rw [inv.size]; exact hilt
              simp [hlt]
            · rw [getD_set_ne false (fun e => hji e.symm)]; simp [hji]
          rw [hgd, putN_add _ n hD hin hfalse, ← ha, hdo]
          cases hd : oi.dst with
          | none => rfl
          | some d =>
            by_cases hlt : d < a.tmps.size
            · simp [hlt]
            · simp only [hlt, if_false, Act.put]
              rw [Array.setIfInBounds_eq_of_size_le (Nat.le_of_not_lt hlt), Array.setIfInBounds_eq_of_size_le (Nat.le_of_not_lt hlt)]
        · intro j hj hl
          by_cases hji : j = i
          · subst hji
            simp only [if_true]
            cases hd : oi.dst with
            | none => have := hk.dst; rw [hd] at this; cases this
            | some d => exact tpAt_mono hb.size (hT d hd)
          · simp only [hji, if_false]
            rw [getD_set_ne false (fun e => hji e.symm)] at hl
            exact (tpAt w.heap.size Ts j).gr _ _ _ hb' (hv j hj hl)
        · have hvi : ∀ j, j < n → j ≠ i → listed.getD j false = true → newB Ts i = true → newB Ts j = true → (match oi.dst with | some d => if d < a.tmps.size then v else undef | none => v) ≠ vs j := by
            intro j hj hji hl h1 h2
            obtain ⟨g, hg, hlt⟩ := tpAt_new h2 (hv j hj hl)
            cases hd : oi.dst with
            | none => have := hk.dst; rw [hd] at this; cases this
            | some d =>
              obtain ⟨g', hg', _, hge⟩ := tpAt_new' h1 (hT d hd)
              show (if d < a.tmps.size then v else undef) ≠ vs j
              rw [hg', hg]
              intro e
              injection e with e
              injection e with e
              injection e with e
              omega
          intro i1 j1 hi1 hj1 hij hl1 hl2 hn1 hn2
          by_cases h1 : i1 = i
          · subst h1
            have hji : j1 ≠ i1 := fun e => hij e.symm
            rw [getD_set_ne false (fun e => hji e.symm)] at hl2
            simp only [if_true, hji, if_false]
            exact hvi j1 hj1 hji hl2 hn1 hn2
          · by_cases h2 : j1 = i
            · subst h2
              rw [getD_set_ne false (fun e => h1 e.symm)] at hl1
              simp only [if_true, h1, if_false]
              exact (hvi i1 hi1 h1 hl1 hn2 hn1).symm
            · rw [getD_set_ne false (fun e => h1 e.symm)] at hl1
              rw [getD_set_ne false (fun e => h2 e.symm)] at hl2
              simp only [h1, h2, if_false]
              exact hpw i1 j1 hi1 hj1 hij hl1 hl2 hn1 hn2
  have inv0 : HeadInv .any l.toArray n (Array.replicate l.toArray.size false) :=
    ⟨by simp, fun j oj _ hl => (by rw [getD_replicate_false] at hl; cases hl), fun t _ ht => getD_in (by simpa using ht) (getD_replicate_false _ _)⟩
  refine wp_region_any hm ?_
  have hcnt : ∀ k, k ≤ l.toArray.size → cnt (Array.replicate l.toArray.size false) k = k := by
    intro k
    induction k with
    | zero => intro _; rfl
    | succ k ih =>
      intro hk
      have h1 := ih (by omega)
      have h2 : (Array.replicate l.toArray.size false).getD k true = false := getD_in (by simp at hk ⊢; omega) (getD_replicate_false _ _)
      simp only [cnt, h2, if_true]
      omega
  have := key n _ a0 { w with drawn := w.drawn + 1 } (fun _ => undef) (hcnt n hn) inv0 ?_ (fun j _ hl => by rw [getD_replicate_false] at hl; cases hl) (fun i j _ _ _ hl => by rw [getD_replicate_false] at hl; cases hl) ⟨rfl, rfl, rfl, Nat.le_refl _, fun _ _ => rfl⟩
  · rwa [show n + (l.toArray.size - n) = l.toArray.size by omega] at this
  · have : ∀ k, putN l.toArray (fun j => (Array.replicate l.toArray.size false).getD j false) (fun _ => undef) a0 k = a0 := by
      intro k
      induction k with
      | zero => rfl
      | succ k ih => rw [putN_succ, getD_replicate_false, ih]; rfl
    exact (this n).symm
end
end Grow
end Go.Proofs.YtemenlcigengeaaGreatDoor
namespace Go.Proofs.YtemenlcigengeaaGreatDoor
open Go.RowKit
namespace Nt
open _root_.Go.Proofs.YtemenlcigengeaaGreatDoor.Nm (zeroX)
theorem box3 {w : World} {g : Nat} (u0 u1 u2 : Value) (hA : Box w g zeroX) : Box (((w.setCell ⟨g, 0, none⟩ u0).setCell ⟨g, 1, none⟩ u1).setCell ⟨g, 2, none⟩ u2) g #[u0, u1, u2] := by
  have := boxn_cell (boxn_cell (boxn_cell hA (j := 0) (by decide) u0) (j := 1) (by simp [zeroX]) u1) (j := 2) (by simp [zeroX]) u2
  simpa [zeroX] using this
theorem box3_other {w : World} {g g' : Nat} {A : Array Value} (u0 u1 u2 : Value) (hA : Box w g A) (hne : g ≠ g') : Box (((w.setCell ⟨g', 0, none⟩ u0).setCell ⟨g', 1, none⟩ u1).setCell ⟨g', 2, none⟩ u2) g A :=
  boxn_other (boxn_other (boxn_other hA hne _ _) hne _ _) hne _ _
theorem pairSet {w0 w : World} {g g' x y x' y' : Nat} {b b' : Bool} {u1 u2 u3 u4 : Value} (hA : Box w g zeroX) (hB : Box w g' zeroX) (hne : g ≠ g') (n1 : N w u1 x) (n2 : N w u2 y) (n3 : N w u3 x') (n4 : N w u4 y') (hb : Below w0.heap.size w0 w) (h1 : w0.heap.size ≤ g) (h2 : w0.heap.size ≤ g') :
    let X := (((((w.setCell ⟨g, 0, none⟩ (.bool b)).setCell ⟨g, 1, none⟩ u1).setCell ⟨g, 2, none⟩ u2).setCell ⟨g', 0, none⟩ (.bool b')).setCell ⟨g', 1, none⟩ u3).setCell ⟨g', 2, none⟩ u4
    (Box X g #[.bool b, u1, u2] ∧ Box X g' #[.bool b', u3, u4]) ∧ (N X u1 x ∧ N X u2 y ∧ N X u3 x' ∧ N X u4 y') ∧ Below w0.heap.size w0 X := by
  have k : ∀ {v : Value} {n : Nat}, N w v n → N ((((((w.setCell ⟨g, 0, none⟩ (.bool b)).setCell ⟨g, 1, none⟩ u1).setCell ⟨g, 2, none⟩ u2).setCell ⟨g', 0, none⟩ (.bool b')).setCell ⟨g', 1, none⟩ u3).setCell ⟨g', 2, none⟩ u4) v n := fun h =>
    (h.keepBox hA zero_notI (Nm.set3_other _ _ _)).keepBox (box3_other _ _ _ hB (fun e => hne e.symm)) zero_notI (Nm.set3_other _ _ _)
  exact ⟨⟨box3_other _ _ _ (box3 _ _ _ hA) hne, box3 _ _ _ (box3_other _ _ _ hB (fun e => hne e.symm))⟩, ⟨k n1, k n2, k n3, k n4⟩, (((((hb.setCell h1 _).setCell h1 _).setCell h1 _).setCell h2 _).setCell h2 _).setCell h2 _⟩
end Nt
end Go.Proofs.YtemenlcigengeaaGreatDoor
namespace Go.Proofs.YtemenlcigengeaaGreatDoor
open Go.RowKit
namespace Nt
open _root_.Go.Proofs.YtemenlcigengeaaGreatDoor.Nm (rF rQ sgn outN outD outF AnsPost bF zeroX)
theorem bF_zero {n1 d1 n2 d2 : ByteArray} (h : bF n1 d1 n2 d2 = 0) : rF n1 d1 = 0 ∧ rF n2 d2 = 0 := by
  unfold bF at h
  by_cases h1 : rF n1 d1 = 0
  · rw [if_neg (fun h' => h' h1)] at h; exact ⟨h1, h⟩
  · rw [if_pos h1] at h; exact absurd h h1
end Nt
end Go.Proofs.YtemenlcigengeaaGreatDoor
namespace Go.Proofs.YtemenlcigengeaaGreatDoor
open Go.RowKit
namespace Nm
def ordV (n1 d1 n2 d2 : ByteArray) : Int := if bF n1 d1 n2 d2 = 0 then cmpQ (rQ n1 d1) (rQ n2 d2) else 0
def OrdPost (w : World) (n1 d1 n2 d2 : ByteArray) (e : Ending) (w' : World) : Prop := e = .returned (.tuple #[.int .i64 (ordV n1 d1 n2 d2), .int .i64 (bF n1 d1 n2 d2)]) ∧ Below w.heap.size w w'
end Nm
end Go.Proofs.YtemenlcigengeaaGreatDoor
