/- The order of events in the form that the sort asks: the world grown alone. '==' and '!=' on events. The join of logs, plainly: the list in order that has the events of both, each once; and what a sorted list that was compacted is. CheckLog of package event, and the reference's. Plain: a text cut at the first byte c. No program stands in it. -/
import Derived.Test.YtbgbfjfboaajbaaDoorEl02
import Derived.Shelf.SlSortCmp.KitK
import Derived.Laws.StructEq
import Derived.Lib.SlicesCompact
import Derived.Test.YtbgbfjfboaajbaaDoorEl01
namespace Go.Proofs.YtbgbfjfboaajbaaDoor
open Go.RowKit Go.Sort
/-- The world has grown alone: new blocks, and draws. -/
def Grew (w w' : World) : Prop := Below w.heap.size w w' ∧ w.drawn ≤ w'.drawn
theorem Grew.form {w w' : World} (h : Grew w w') : ∃ q os, w' = grow (w.drewN q) os := by
  obtain ⟨⟨h1, h2, h3, h4, h5⟩, h6⟩ := h
  refine ⟨w'.drawn - w.drawn, w'.heap.extract w.heap.size w'.heap.size, ?_⟩
  cases w with | mk H T D O U =>
  cases w' with | mk H' T' D' O' U' =>
  simp only at h1 h2 h3 h4 h5 h6
  subst h1; subst h2; subst h3
  simp only [grow, World.drewN, World.mk.injEq, true_and]
  refine ⟨?_, by omega, trivial⟩
  apply Array.ext
  · simp; omega
  · intro i hi1 hi2
    by_cases hlt : i < H.size
    · have := h5 i hlt
      rw [Array.getElem?_eq_getElem hi1, Array.getElem?_eq_getElem hlt] at this
      rw [Array.getElem_append_left hlt]
      exact Option.some.inj this
    · rw [Array.getElem_append_right (by omega)]
      simp only [Array.getElem_extract]
      congr 1; omega
abbrev S2D (W : World) (b1 : Nat) (A1 : Array Value) (b2 : Nat) (A2 : Array Value) (w' : World) : Prop :=
  S2 W b1 A1 b2 A2 w' ∧ W.drawn ≤ w'.drawn
theorem S2D.start {W : World} {b1 : Nat} {A1 : Array Value} {b2 : Nat} {A2 : Array Value} (h1 : Box W b1 A1) (h2 : Box W b2 A2) : S2D W b1 A1 b2 A2 W.drew :=
  ⟨S2.start h1 h2, Nat.le_succ _⟩
theorem S2D.alloc {W w1 : World} {b1 : Nat} {A1 : Array Value} {b2 : Nat} {A2 : Array Value} {o : Obj} (h : S2D W b1 A1 b2 A2 w1) (h1 : Box W b1 A1) (h2 : Box W b2 A2) : S2D W b1 A1 b2 A2 (w1.alloc o) :=
  ⟨S2.ext (ext_alloc _ _) h.1 h1 h2, h.2⟩
theorem S2D.grew {w W w1 : World} {b1 : Nat} {A1 : Array Value} {b2 : Nat} {A2 : Array Value} (hw : Grew w W) (h : S2D W b1 A1 b2 A2 w1) : Grew w w1 :=
  ⟨ext_trans hw.1 h.1.1, Nat.le_trans hw.2 h.2⟩
theorem wp_box2d {P : Program} {c : Code} {Q : Exit → Act → World → Prop} {a : Act} {w : World} {A B : Array Value} {t u : TypeId}
    (h : ∀ W, Grew w W → Box W w.heap.size A → Box W (w.heap.size + 1) B → c.wp P Q a W) : c.wp P Q a ((w.alloc (.cells A t)).alloc (.cells B u)) := by
  refine h _ ⟨by go_grown, Nat.le_refl _⟩ ((Box.new _ _ _).ext (by go_grown)) ?_
  have := Box.new (w.alloc (.cells A t)) B u
  simpa using this
set_option maxHeartbeats 2000000 in
theorem event_order_g (a b : Ev) (w : World) : Calls Tryd.prog 21 #[.agg (evC a), .agg (evC b)] w fun e w' => e = .returned (.int .i64 (ordE a b)) ∧ Grew w w' := by
  have HO := Lib.hid (show orI (cmpS a.shard b.shard) (cmpI a.number b.number) = ordE a b from rfl)
  go_enter Tryd.func21, Tryd.ntmps21
  go_wp2_with fail
  refine wp_box2d fun W hbW hA hB => ?_
  go_region_held3 (S2D W w.heap.size (evC a) (w.heap.size + 1) (evC b)) (first | exact S2D.start hA hB | exact S2D.alloc (by assumption) hA hB | assumption) (first | (go_at_call 40; refine (strings_Compare _ _ _).mono ?_; rintro e w1 ⟨rfl, rfl⟩) | (go_at_call 41; refine (cmp_int _ _ _).mono ?_; rintro e w2 ⟨rfl, rfl⟩) | (go_at_call 39; refine (or_two (cmpS a.shard b.shard) (cmpI a.number b.number) _ _ (by simp) (by simp)).mono ?_; rintro e w3 ⟨rfl, rfl⟩))
  go_wp2
  go_ret
  exact ⟨ret_int HO.out, S2D.grew hbW (by assumption)⟩
theorem evL_one (x : Ev) : ∀ v ∈ evL x, v.oneCell' = true := by
  intro v hv
  simp only [evL, List.mem_cons, List.not_mem_nil, or_false] at hv
  rcases hv with rfl | rfl | rfl | rfl | rfl | rfl | rfl | rfl <;> rfl
instance : Inhabited Ev := ⟨⟨⟨#[]⟩, 0, 0, 0, ⟨#[]⟩, ⟨#[]⟩, 0, 0⟩⟩
theorem order_lays (blk off size : Nat) (w : World) : CmpLays Tryd.prog 21 #[] evL 8 ordE blk off size w := by
  intro m os dk _ x y
  refine (event_order_g x y _).mono ?_
  rintro e w' ⟨rfl, hg⟩
  exact ⟨rfl, hg.form⟩
theorem ordE_self (a : Ev) : ordE a a = 0 := by unfold ordE orI; rw [cmpS_self, cmpI_self]; rfl
theorem ordE_anti (a b : Ev) : ordE b a = - ordE a b := by
  unfold ordE orI; rw [cmpS_anti a.shard b.shard, cmpI_anti a.number b.number]
  by_cases h : cmpS a.shard b.shard = 0
  · simp [h]
  · rw [if_neg (by omega), if_neg h]
theorem ordE_trans {a b c : Ev} (h : ordE a b ≤ 0) (k : ordE b c ≤ 0) : ordE a c ≤ 0 := by
  unfold ordE orI at *
  by_cases h1 : cmpS a.shard b.shard = 0
  · have e := cmpS_zero h1
    simp only [h1, if_true] at h
    rw [e]
    by_cases h2 : cmpS b.shard c.shard = 0
    · simp only [h2, if_true] at k ⊢; exact cmpI_trans h k
    · simp only [h2, if_false] at k ⊢; exact k
  · simp only [h1, if_false] at h
    by_cases h2 : cmpS b.shard c.shard = 0
    · have e := cmpS_zero h2
      rw [← e]; simp only [h1, if_false]; exact h
    · simp only [h2, if_false] at k
      have h3 := cmpS_trans h k
      by_cases h4 : cmpS a.shard c.shard = 0
      · have e := cmpS_zero h4
        rw [← e, cmpS_anti a.shard b.shard] at k; omega
      · rw [if_neg h4]; exact h3
theorem ordE_lt_trans {a b c : Ev} (h : ordE a b < 0) (k : ordE b c < 0) : ordE a c < 0 := by
  have h1 : ordE a c ≤ 0 := @ordE_trans a b c (by omega) (by omega)
  rcases Int.lt_or_eq_of_le h1 with h2 | h2
  · exact h2
  · have h3 : ordE c a = 0 := by rw [ordE_anti, h2]; rfl
    have h4 : ordE c b ≤ 0 := @ordE_trans c a b (by omega) (by omega)
    rw [ordE_anti] at h4; omega
theorem ordE_swo : SWO (ltOf ordE) where
  irrefl x := by simp [ltOf, ordE_self]
  trans x y z h k := by simp only [ltOf, decide_eq_true_eq] at *; exact ordE_lt_trans h k
  ntrans x y z h k := by
    simp only [ltOf, decide_eq_false_iff_not, Int.not_lt] at *
    have h1 := ordE_anti x y; have h2 := ordE_anti y z; have h3 := ordE_anti x z
    have := @ordE_trans z y x (by omega) (by omega)
    omega
end Go.Proofs.YtbgbfjfboaajbaaDoor
namespace Go.Proofs.YtbgbfjfboaajbaaDoor
open Go.RowKit
theorem ev_ext {a b : Ev} (h0 : a.shard = b.shard) (h1 : a.number = b.number) (h2 : a.kind = b.kind) (h3 : a.time = b.time) (h4 : a.key = b.key) (h5 : a.name = b.name) (h6 : a.arm = b.arm) (h7 : a.n = b.n) : a = b := by
  cases a; cases b; simp_all
instance : DecidableEq Ev := fun a b => decidable_of_iff (a.shard = b.shard ∧ a.number = b.number ∧ a.kind = b.kind ∧ a.time = b.time ∧ a.key = b.key ∧ a.name = b.name ∧ a.arm = b.arm ∧ a.n = b.n)
  ⟨fun ⟨h0, h1, h2, h3, h4, h5, h6, h7⟩ => ev_ext h0 h1 h2 h3 h4 h5 h6 h7, fun h => by subst h; simp⟩
theorem toList_inj {a b : ByteArray} (h : a.toList = b.toList) : a = b := bytes_ext (by rw [← ByteArray.toList_eq, ← ByteArray.toList_eq]; exact h)
set_option maxHeartbeats 2000000 in
set_option maxRecDepth 100000 in
theorem equal_ev (x y : Ev) (w : World) : (Op.equalIn 10000 34 (.agg (evC x)) (.agg (evC y))).run Tryd.prog w = .ok (decide (x = y)) w := by
  have e1 : (Op.equalIn 10000 34 (.agg (evC x)) (.agg (evC y))).run Tryd.prog w = .ok (decide (x = y)) w := by
    rw [run_equalIn_struct w 9999 34 _ _ (by kernel_rfl) (by kernel_rfl)]
    go_simp
    by_cases hxy : x = y
    · subst hxy; simp
    · rw [decide_eq_false hxy]
      split
      · split
        · split
          · split
            · split
              · split
                · split
                  · split
                    · exact absurd (ev_ext (toList_inj ‹_›) ‹_› ‹_› ‹_› (toList_inj ‹x.key.toList = _›) (toList_inj ‹x.name.toList = _›) ‹_› ‹_›) hxy
                    · rfl
                  · rfl
                · rfl
              · rfl
            · rfl
          · rfl
        · rfl
      · rfl
  exact e1
theorem eql_ev (x y : Ev) (w : World) : (binOp .eql 34 (.agg (evC x)) (.agg (evC y))).run Tryd.prog w = .ok (.bool (decide (x = y))) w := by
  simp only [binOp]
  simp [Op.equal, Op.maxDepth, equal_ev x y w]
theorem neq_ev (x y : Ev) (w : World) : (binOp .neq 34 (.agg (evC x)) (.agg (evC y))).run Tryd.prog w = .ok (.bool (!decide (x = y))) w := by
  simp only [binOp]
  simp [Op.equal, Op.maxDepth, equal_ev x y w]
theorem guard_ev (op : BinOp) (a b : Operand) (x y : Ev) (w : World) : (eqGuard op 34 a b (.agg (evC x)) (.agg (evC y))).run Tryd.prog w = .ok () w :=
  run_eqGuard_agg w op _ a b _ _ (by kernel_rfl)
end Go.Proofs.YtbgbfjfboaajbaaDoor
namespace Go.Proofs.YtbgbfjfboaajbaaDoor
open Go.Sort Go.Lib
def Asc (M : List Ev) : Prop := M.Pairwise (fun a b => ordE a b < 0)
def NoClash (U : List Ev) : Prop := ∀ x ∈ U, ∀ y ∈ U, ordE x y = 0 → x = y
def Adj (P : Ev → Ev → Prop) (C : List Ev) : Prop := ∀ j x y, C[j]? = some x → C[j + 1]? = some y → P x y
theorem Adj.nil (P : Ev → Ev → Prop) : Adj P [] := fun j x y h => by simp at h
theorem Adj.snoc {P : Ev → Ev → Prop} {C : List Ev} {y : Ev} (h : Adj P C) (hl : ∀ x, C.getLast? = some x → P x y) : Adj P (C ++ [y]) := by
  intro j a b ha hb
  by_cases h1 : j + 1 < C.length
  · rw [List.getElem?_append_left (by omega)] at ha hb
    exact h j a b ha hb
  · by_cases h2 : j + 1 = C.length
    · rw [List.getElem?_append_left (by omega)] at ha
      rw [List.getElem?_append_right (by omega), h2, Nat.sub_self] at hb
      have : y = b := by simpa using hb
      subst this
      refine hl a ?_
      rw [List.getLast?_eq_getElem?, ← h2, Nat.add_sub_cancel]; exact ha
    · rw [List.getElem?_append_right (by omega)] at hb
      rw [List.getElem?_eq_none (by simp; omega)] at hb; cases hb
theorem Adj.tail {P : Ev → Ev → Prop} {x : Ev} {C : List Ev} (h : Adj P (x :: C)) : Adj P C := fun j a b ha hb => h (j + 1) a b (by simpa using ha) (by simpa using hb)
theorem asc_head {x : Ev} : ∀ {C : List Ev}, Adj (fun a b => ordE a b < 0) (x :: C) → ∀ y ∈ C, ordE x y < 0
  | [], _, _, h => by cases h
  | z :: C, h, y, hy => by
    have h1 : ordE x z < 0 := h 0 x z rfl rfl
    rcases List.mem_cons.1 hy with rfl | hy
    · exact h1
    · exact ordE_lt_trans h1 (asc_head h.tail y hy)
theorem asc_of_adj : ∀ {C : List Ev}, Adj (fun a b => ordE a b < 0) C → Asc C
  | [], _ => List.Pairwise.nil
  | _ :: _, h => List.Pairwise.cons (asc_head h) (asc_of_adj h.tail)
theorem asc_unique : ∀ {M M' : List Ev}, Asc M → Asc M' → (∀ x, x ∈ M ↔ x ∈ M') → M = M'
  | [], [], _, _, _ => rfl
  | [], y :: M', _, _, h => by have := (h y).2 (by simp); cases this
  | x :: M, [], _, _, h => by have := (h x).1 (by simp); cases this
  | x :: M, y :: M', h1, h2, h => by
    obtain ⟨a1, a2⟩ := List.pairwise_cons.1 h1
    obtain ⟨b1, b2⟩ := List.pairwise_cons.1 h2
    have hxy : x = y := by
      rcases List.mem_cons.1 ((h x).1 (by simp)) with e | e
      · exact e
      · rcases List.mem_cons.1 ((h y).2 (by simp)) with e' | e'
        · exact e'.symm
        · have := a1 y e'; have := b1 x e; rw [ordE_anti x y] at this; omega
    subst hxy
    congr 1
    refine asc_unique a2 b2 fun z => ?_
    constructor
    · intro hz
      rcases List.mem_cons.1 ((h z).1 (List.mem_cons_of_mem _ hz)) with e | e
      · subst e; have := a1 z hz; rw [ordE_self] at this; omega
      · exact e
    · intro hz
      rcases List.mem_cons.1 ((h z).2 (List.mem_cons_of_mem _ hz)) with e | e
      · subst e; have := b1 z hz; rw [ordE_self] at this; omega
      · exact e
theorem asc_noClash {M : List Ev} (h : Asc M) : NoClash M := by
  intro x hx y hy h0
  obtain ⟨i, hi, rfl⟩ := List.getElem_of_mem hx
  obtain ⟨j, hj, rfl⟩ := List.getElem_of_mem hy
  rcases Nat.lt_trichotomy i j with h1 | h1 | h1
  · have := List.pairwise_iff_getElem.1 h i j hi hj h1; omega
  · subst h1; rfl
  · have := List.pairwise_iff_getElem.1 h j i hj hi h1; rw [ordE_anti, h0] at this; omega

/-- What a list in order becomes, compacted. -/
theorem cpt_inv (d : Array Ev) : ∀ m, m ≤ d.size → (∀ x, x ∈ compactUpTo d m ↔ ∃ j, j < m ∧ d[j]! = x) ∧ (0 < m → (compactUpTo d m).getLast? = some d[m - 1]!) ∧ Adj (fun a b => a ≠ b ∧ ∃ i j, i < j ∧ j < m ∧ d[i]! = a ∧ d[j]! = b) (compactUpTo d m)
  | 0, _ => ⟨fun x => by simp [compactUpTo], fun h => by omega, by simp only [compactUpTo, List.range_zero, List.filter_nil, List.map_nil]; exact Adj.nil _⟩
  | m + 1, hm => by
    obtain ⟨h1, h2, h3⟩ := cpt_inv d m (by omega)
    rw [compactUpTo_succ]
    have h3' : Adj (fun a b => a ≠ b ∧ ∃ i j, i < j ∧ j < m + 1 ∧ d[i]! = a ∧ d[j]! = b) (compactUpTo d m) := fun j x y hx hy => by
      obtain ⟨k1, i, k, k2, k3, k4, k5⟩ := h3 j x y hx hy
      exact ⟨k1, i, k, k2, by omega, k4, k5⟩
    by_cases hk : keeps d m = true
    · rw [if_pos hk]
      refine ⟨fun x => ?_, fun _ => by simp, h3'.snoc fun x hx => ?_⟩
      · simp only [List.mem_append, h1, List.mem_singleton]
        constructor
        · rintro (⟨j, hj, rfl⟩ | rfl)
          · exact ⟨j, by omega, rfl⟩
          · exact ⟨m, by omega, rfl⟩
        · rintro ⟨j, hj, rfl⟩
          by_cases e : j = m
          · subst e; exact .inr rfl
          · exact .inl ⟨j, by omega, rfl⟩
      · by_cases hm0 : m = 0
        · subst hm0; simp [compactUpTo] at hx
        · rw [h2 (by omega)] at hx
          obtain rfl := Option.some.inj hx
          refine ⟨fun e => ?_, m - 1, m, by omega, by omega, rfl, rfl⟩
          simp only [keeps, decide_eq_true_eq] at hk
          rcases hk with hk | hk
          · exact hm0 hk
          · exact hk e.symm
    · have hk' : keeps d m = false := by simpa using hk
      have hm0 : m ≠ 0 := fun e => by subst e; simp [keeps] at hk'
      have hd : d[m]! = d[m - 1]! := by
        simp only [keeps, decide_eq_false_iff_not] at hk'
        exact Classical.byContradiction fun h => hk' (.inr h)
      rw [if_neg hk, List.append_nil]
      refine ⟨fun x => ?_, fun _ => by rw [h2 (by omega), Nat.add_sub_cancel, hd], h3'⟩
      rw [h1]
      constructor
      · rintro ⟨j, hj, rfl⟩; exact ⟨j, by omega, rfl⟩
      · rintro ⟨j, hj, rfl⟩
        by_cases e : j = m
        · subst e; exact ⟨j - 1, by omega, hd.symm⟩
        · exact ⟨j, by omega, rfl⟩
theorem perm_mem {U : List Ev} {d' : Array Ev} (hp : PermIn 0 U.toArray.size U.toArray d') (x : Ev) : (∃ j, j < d'.size ∧ d'[j]! = x) ↔ x ∈ U := by
  obtain ⟨hs, _, hq⟩ := hp
  have e1 : (d'.extract 0 U.toArray.size).toList = d'.toList := by rw [← hs]; simp
  have e2 : (U.toArray.extract 0 U.toArray.size).toList = U := by simp
  rw [e1, e2] at hq
  rw [← hq.mem_iff]
  constructor
  · rintro ⟨j, hj, rfl⟩; rw [getElem!_pos d' j hj]; exact Array.getElem_mem_toList hj
  · intro h
    obtain ⟨j, hj, rfl⟩ := List.getElem_of_mem h
    have hj' : j < d'.size := by simpa using hj
    exact ⟨j, hj', by rw [getElem!_pos d' j hj']; simp⟩
/-- What was sorted and compacted: the events of U, in order, but for clashes. -/
theorem cpt_sorted {U : List Ev} {d' : Array Ev} (hp : PermIn 0 U.toArray.size U.toArray d') (hs : SortedIn (ltOf ordE) 0 U.toArray.size d') :
    (∀ x, x ∈ compactUpTo d' d'.size ↔ x ∈ U) ∧ Adj (fun a b => a ≠ b ∧ ordE a b ≤ 0) (compactUpTo d' d'.size) := by
  obtain ⟨h1, _, h3⟩ := cpt_inv d' d'.size (Nat.le_refl _)
  refine ⟨fun x => (h1 x).trans (perm_mem hp x), fun j x y hx hy => ?_⟩
  obtain ⟨k1, i, k, k2, k3, rfl, rfl⟩ := h3 j x y hx hy
  refine ⟨k1, ?_⟩
  have := hs i k (by omega) k2 (by rw [← hp.1]; exact k3)
  simp only [ltOf, decide_eq_false_iff_not, Int.not_lt] at this
  rw [ordE_anti] at this; omega
theorem clash_of {U C : List Ev} (hm : ∀ x, x ∈ C ↔ x ∈ U) (ha : Adj (fun a b => a ≠ b ∧ ordE a b ≤ 0) C) {j : Nat} {x y : Ev} (hx : C[j]? = some x) (hy : C[j + 1]? = some y) (h0 : ordE x y = 0) : ¬ NoClash U := by
  intro hn
  exact (ha j x y hx hy).1 (hn x ((hm x).1 (List.mem_of_getElem? hx)) y ((hm y).1 (List.mem_of_getElem? hy)) h0)
theorem asc_of {C : List Ev} (ha : Adj (fun a b => a ≠ b ∧ ordE a b ≤ 0) C) (hn : Adj (fun a b => ordE a b ≠ 0) C) : Asc C :=
  asc_of_adj fun j x y hx hy => by have := (ha j x y hx hy).2; have := hn j x y hx hy; show ordE x y < 0; omega
end Go.Proofs.YtbgbfjfboaajbaaDoor
namespace Go.Proofs.YtbgbfjfboaajbaaDoor
open Go.RowKit
/-- the first fault of events, behind another one -/
def scanFrom : Option Ev → List Ev → Int
  | _, [] => 0
  | p, e :: r => if checkE e ≠ 0 then checkE e else if (match p with | none => false | some q => decide (0 ≤ ordE q e)) = true then 8 else scanFrom (some e) r
def checkL (l : List Ev) : Int := if 20000 < l.length then 2 else if scanFrom none l ≠ 0 then scanFrom none l else if 50 < (shardsOf l).length then 2 else 0
theorem scan_step (p : Option Ev) {l : List Ev} {k : Nat} {s : Ev} (h : l[k]? = some s) : scanFrom p (l.drop k) = if checkE s ≠ 0 then checkE s else if (match p with | none => false | some q => decide (0 ≤ ordE q s)) = true then 8 else scanFrom (some s) (l.drop (k + 1)) := by
  obtain ⟨hk, rfl⟩ := List.getElem?_eq_some_iff.1 h
  rw [List.drop_eq_getElem_cons hk]; rfl
def prevE (l : List Ev) : Nat → Option Ev
  | 0 => none
  | k + 1 => l[k]?
/-- eight cells of an event -/
abbrev C8 (w' : World) (b o : Nat) (e : Ev) : Prop :=
  w'.cell? ⟨b, o, none⟩ = some (.string e.shard) ∧ w'.cell? ⟨b, o + 1, none⟩ = some (.int .i64 e.number) ∧ w'.cell? ⟨b, o + 2, none⟩ = some (.int .i64 e.kind) ∧ w'.cell? ⟨b, o + 3, none⟩ = some (.int .i64 e.time) ∧
    w'.cell? ⟨b, o + 4, none⟩ = some (.string e.key) ∧ w'.cell? ⟨b, o + 5, none⟩ = some (.string e.name) ∧ w'.cell? ⟨b, o + 6, none⟩ = some (.int .i64 e.arm) ∧ w'.cell? ⟨b, o + 7, none⟩ = some (.int .i64 e.n)
theorem C8.ext {w w' : World} {b o : Nat} {e : Ev} (hb : Below w.heap.size w w') (h : C8 w b o e) : C8 w' b o e :=
  ⟨cell_later hb h.1, cell_later hb h.2.1, cell_later hb h.2.2.1, cell_later hb h.2.2.2.1, cell_later hb h.2.2.2.2.1, cell_later hb h.2.2.2.2.2.1, cell_later hb h.2.2.2.2.2.2.1, cell_later hb h.2.2.2.2.2.2.2⟩
abbrev SE (W : World) (b1 : Nat) (A1 : Array Value) (b o : Nat) (e : Ev) (w' : World) : Prop :=
  Below W.heap.size W w' ∧ (∀ j, w'.cell? ⟨b1, j, none⟩ = A1[j]?) ∧ C8 w' b o e
theorem SE.start {W : World} {b1 : Nat} {A1 : Array Value} {b o : Nat} {e : Ev} (h1 : Box W b1 A1) (h2 : C8 W b o e) : SE W b1 A1 b o e W.drew := ⟨(Below.refl _ _).drew, h1.2, h2⟩
theorem SE.ext {W w1 w2 : World} {b1 : Nat} {A1 : Array Value} {b o : Nat} {e : Ev} (hb : Below w1.heap.size w1 w2) (h : SE W b1 A1 b o e w1) (h1 : Box W b1 A1) : SE W b1 A1 b o e w2 :=
  ⟨ext_trans h.1 hb, fun j => (hb.cell (p := ⟨b1, j, none⟩) (Nat.lt_of_lt_of_le h1.1 h.1.size)).trans (h.2.1 j), C8.ext hb h.2.2⟩

set_option maxHeartbeats 4000000 in
theorem event_CheckLog (l : List Ev) (hok : ∀ e ∈ l, e.ok) (a : Option Addr) (c : Nat) (w : World) (hs : Sl w (.slice a l.length c) l.length (l.flatMap evL)) :
    Calls Tryd.prog 10 #[.slice a l.length c] w fun e w' => e = .returned (.int .i64 (checkL l)) ∧ Below w.heap.size w w' := by
  have HOK := Lib.hid hok
  clear hok
  by_cases hl : 20000 < l.length
  · have hc : checkL l = 2 := by unfold checkL; rw [if_pos hl]
    rw [hc]
    clear hc
    go_enter Tryd.func10, Tryd.ntmps10
    go_wp2
    go_ret
    exact ⟨rfl, Below.refl _ _⟩
  have HC : Hid (checkL l = if scanFrom none l ≠ 0 then scanFrom none l else if 50 < (shardsOf l).length then 2 else 0) := by
    have : checkL l = if scanFrom none l ≠ 0 then scanFrom none l else if 50 < (shardsOf l).length then 2 else 0 := by unfold checkL; rw [if_neg hl]
    exact this
  go_enter Tryd.func10, Tryd.ntmps10
  go_wp2
  go_loopw [11] (fun i wr => ∃ k : Nat, k ≤ l.length ∧ i = .int .i64 k ∧ Hid (scanFrom none l = scanFrom (prevE l k) (l.drop k)) ∧ Below w.heap.size w wr) (fun i _ => l.length - (intOf i).toNat)
  case atStart => exact ⟨0, by omega, rfl, rfl, Below.refl _ _⟩
  case round =>
    obtain ⟨k, hk, rfl, HK, hb⟩ := hrel
    by_cases hlt : k < l.length
    · have hgk := List.getElem?_eq_getElem hlt
      have hsok : (l[k]).ok := HOK.out _ (List.getElem_mem _)
      generalize l[k] = s at hgk hsok
      obtain ⟨b, o, rfl, e0, e1, e2, e3, e4, e5, e6, e7⟩ := ev_cells (hs.ext hb) hgk
      have HST := Lib.hid (scan_step (prevE l k) hgk)
      have HP : Hid (prevE l (k + 1) = some s) := hgk
      clear hgk
      go_upto_region 6 with (fail)
      clear e0 e1 e2 e3 e4 e5 e6 e7
      refine wp_box1 fun X hszX hbX hX => ?_
      obtain ⟨_, hX2⟩ := id hX
      clear hszX
      go_wp2_with fail
      refine (event_Check s hsok _).mono ?_
      rintro e w2 ⟨rfl, hb2⟩
      have hbx := ext_trans (ext_trans hb hbX) hb2
      have hX3 := hX.ext hb2
      clear hX hX2 hbX hb2
      by_cases hc : checkE s = 0
      · have hne : (checkE s != 0) = false := by simp [hc]
        have HS2 : Hid (scanFrom none l = if (match prevE l k with | none => false | some q => decide (0 ≤ ordE q s)) = true then 8 else scanFrom (some s) (l.drop (k + 1))) := by
          have := HK.out; rw [HST.out, if_neg (by simp [hc])] at this; exact this
        clear hc
        by_cases h0 : k = 0
        · subst h0
          have HS3 : Hid (scanFrom none l = scanFrom (prevE l (0 + 1)) (l.drop (0 + 1))) := by have := HS2.out; simp only [prevE] at this; rw [HP.out]; exact (by simpa using this : scanFrom none l = scanFrom (some s) (l.drop (0 + 1)))
          go_wp2_with fail
          go_quiet (fail)
          go_wp2
          exact ⟨⟨0 + 1, by omega, rfl, HS3, below_drewN hbx _⟩, by simp [intOf]; omega⟩
        · obtain ⟨j, rfl⟩ : ∃ j, k = j + 1 := ⟨k - 1, by omega⟩
          have hgj := List.getElem?_eq_getElem (show j < l.length by omega)
          have HS3 : Hid (scanFrom none l = if decide (0 ≤ ordE l[j] s) = true then 8 else scanFrom (prevE l (j + 1 + 1)) (l.drop (j + 1 + 1))) := by
            have := HS2.out; rw [show prevE l (j + 1) = some l[j] from hgj] at this; rw [HP.out]; exact this
          generalize l[j] = s' at hgj HS3
          obtain ⟨b', o', hb', f0, f1, f2, f3, f4, f5, f6, f7⟩ := ev_cells (hs.ext hbx) hgj
          cases hb'
          clear hgj h0 HS2 HST
          have hj0 : (0 : Int) ≤ (j : Int) := Int.natCast_nonneg _
          have hj1 : (j : Int) < (l.length : Int) := by omega
          have hpos : decide ((0 : Int) < (j : Int) + 1) = true := decide_eq_true (by omega)
          have hwj : IntKind.i64.wrap (j : Int) = (j : Int) := IntWalk.i64_in _ (by omega)
          go_wp2_with fail
          go_region_held3 (SE w2 wr.heap.size (evC s) b (o + j * 8) s') (first | exact SE.start hX3 ⟨f0, f1, f2, f3, f4, f5, f6, f7⟩ | exact SE.ext (by with_reducible assumption) (by with_reducible assumption) hX3 | assumption) (first | (go_at_call 21; refine (event_order s' s _).mono ?_; rintro e w3 ⟨rfl, hb3⟩))
          have hb4 := ext_trans hbx.drew hb3
          clear hwj hpos f0 f1 f2 f3 f4 f5 f6 f7 hb3 hX3
          by_cases ho : 0 ≤ ordE s' s
          · have HF : Hid (checkL l = 8) := by
              have h1 := HS3.out
              rw [if_pos (decide_eq_true ho)] at h1
              have h2 := HC.out
              rw [h1, if_pos (by decide)] at h2; exact h2
            go_wp2
            go_ret
            exact ⟨ret_int HF.out.symm, hb4⟩
          · have HS4 : Hid (scanFrom none l = scanFrom (prevE l (j + 1 + 1)) (l.drop (j + 1 + 1))) := by
              have h1 := HS3.out
              rw [if_neg (by simp; omega)] at h1; exact h1
            go_wp2
            go_roundw
            case rel => exact ⟨j + 1 + 1, by omega, by go_num, HS4, hb4⟩
            case measure => simp [intOf]; omega
      · have hne : (checkE s != 0) = true := by simp [hc]
        have HF : Hid (checkL l = checkE s) := by
          have h1 := HK.out
          rw [HST.out, if_pos hc] at h1
          have h2 := HC.out
          rw [h1, if_pos hc] at h2; exact h2
        clear hc
        go_wp2
        go_ret
        exact ⟨ret_int HF.out.symm, hbx⟩
    · have hz : scanFrom none l = 0 := by
        have := HK.out
        rw [List.drop_eq_nil_of_le (by omega)] at this
        rw [this]; rfl
      have hsl := shardsTo_le l l.length
      by_cases h50 : 50 < (shardsOf l).length
      · have HF : Hid (checkL l = 2) := by have h2 := HC.out; rw [hz, if_neg (by simp), if_pos h50] at h2; exact h2
        clear hz
        go_wp2_with fail
        refine (event_shards l a c _ (hs.ext hb)).mono ?_
        rintro e w2 ⟨rfl, hb2⟩
        go_wp2
        go_ret
        exact ⟨ret_int HF.out.symm, ext_trans hb hb2⟩
      · have HF : Hid (checkL l = 0) := by have h2 := HC.out; rw [hz, if_neg (by simp), if_neg h50] at h2; exact h2
        clear hz
        go_wp2_with fail
        refine (event_shards l a c _ (hs.ext hb)).mono ?_
        rintro e w2 ⟨rfl, hb2⟩
        go_wp2
        go_ret
        exact ⟨ret_int HF.out.symm, ext_trans hb hb2⟩
end Go.Proofs.YtbgbfjfboaajbaaDoor
namespace Go.Proofs.YtbgbfjfboaajbaaDoor
namespace Tx
open _root_.Go.Proofs.YtbgbfjfboaajbaaDoor.Nm
def cut1 (c : UInt8) : List UInt8 → List UInt8 × Option (List UInt8)
  | [] => ([], none)
  | b :: r => if b = c then ([], some r) else (b :: (cut1 c r).1, (cut1 c r).2)
theorem cut1_none {c : UInt8} : ∀ {l : List UInt8}, c ∉ l → cut1 c l = (l, none)
  | [], _ => rfl
  | b :: r, h => by
    have hb : b ≠ c := fun e => h (by simp [e])
    rw [cut1, if_neg hb, cut1_none (l := r) (fun e => h (List.mem_cons_of_mem _ e))]
theorem cut1_app {c : UInt8} {r : List UInt8} : ∀ {x : List UInt8}, c ∉ x → cut1 c (x ++ c :: r) = (x, some r)
  | [], _ => by show cut1 c (c :: r) = _; rw [cut1, if_pos rfl]
  | b :: x, h => by
    have hb : b ≠ c := fun e => h (by simp [e])
    show cut1 c (b :: (x ++ c :: r)) = _
    rw [cut1, if_neg hb, cut1_app (x := x) (fun e => h (List.mem_cons_of_mem _ e))]
end Tx
end Go.Proofs.YtbgbfjfboaajbaaDoor
