/- The frame of every law: a call that returns true, and leaves all that was there as it was, meets the row's post. The order of events in the form that the sort asks: the world grown alone. '==' and '!=' on events. -/
import Derived.Test.YtacchooggifnhaaDoorRows
import Derived.WalkKit
import Derived.ProofKit
import Derived.SizedLaws
import Derived.OpenShut
import Derived.JoinedCond
import Derived.Deep.CondSized
import Derived.Test.YtacchooggifnhaaDoorCl01
import Derived.Shelf.SlSortCmp.KitK
import Derived.Laws.StructEq
namespace Go.Proofs.YtacchooggifnhaaDoor
open Go.ChangeShapes Go.WideShapes Go.ChangeAt Go.RowKit

theorem own : ownKnob Tryd.prog.godebug = none := by kernel_rfl
theorem laidOut : laidOutB Tryd.prog = true := by kernel_rfl

theorem trodAll_below {H : Type} {enc : TypeId × Value → H} {P : Program} (hl : laidOutB P = true) {W W' : World} (hb : Below W.heap.size W W') :
    ∀ (ts : List TypeId) (vs : List Value) (ds : List (DataW H)) (ps : List MemPlace), (∀ t ∈ ts, P.readableRec t = true ∧ t < P.types.size) →
      DataW.TrodAll enc P W 0 (fun _ => true) true ts vs ds ps → (∀ x ∈ ps, x.block < W.heap.size) →
      DataW.TrodAll enc P W' 0 (fun b => decide (b < W.heap.size)) true ts vs ds ps
  | [], [], [], ps, _, h, _ => h
  | t :: ts, v :: vs, d :: ds, ps, hr, h, hlt => by
    obtain ⟨p, q, h1, h2, rfl⟩ := h
    refine ⟨p, q, Below.trod hl (hr t (by simp)).1 (hr t (by simp)).2 h1 hb (fun x hx => hlt x (by simp [hx])), ?_, rfl⟩
    exact trodAll_below hl hb ts vs ds q (fun t ht => hr t (by simp [ht])) h2 (fun x hx => hlt x (by simp [hx]))
  | [], [], _ :: _, _, _, h, _ => h.elim
  | [], _ :: _, [], _, _, h, _ => h.elim
  | [], _ :: _, _ :: _, _, _, h, _ => h.elim
  | _ :: _, [], [], _, _, h, _ => h.elim
  | _ :: _, [], _ :: _, _, _, h, _ => h.elim
  | _ :: _, _ :: _, [], _, _, h, _ => h.elim

theorem law_post {H : Type} {enc : TypeId × Value → H} {P : Program} (hl : laidOutB P = true) {f : Func} {s : ChangeSpec} (hv : s.vars = []) {W W' : World} {args : Array Value} {ds gs : List (DataW H)} {before : List MemPlace}
    (hW : DataW.Whole enc P f.params.toList s.vars false W args.toList ds gs before) (hb : Below W.heap.size W W')
    (hr0 : (f.params.toList.all fun t => P.readableRec t && decide (t < P.types.size)) = true) {tb : TypeId} (hres : f.resultTypes = #[tb]) (hub : P.underlying tb = some .bool)
    (hfn : s.fn H (ds ++ gs) = { results := [.lit (.bool true)], args := ds }) : s.post enc P f false true false false W args (.bool true) W' := by
  have hlt := hW.lt
  have hr : ∀ t ∈ f.params.toList, P.readableRec t = true ∧ t < P.types.size := fun t ht => by simpa using List.all_eq_true.1 hr0 t ht
  have hW' := hW
  obtain ⟨p, q, hA, hV, rfl, _, _⟩ := hW
  rw [hv] at hV
  obtain ⟨rfl, rfl⟩ := trodVars_none hV
  refine ⟨ds, [], _, [], p, [], hW', ?_, ?_, ?_, hb.frame _, fun h => by cases h⟩
  · rw [hfn, hres]
    exact trodAll_cons_mk (shut_bool hub true) trodAll_mk0
  · rw [hfn]
    exact trodAll_below hl hb _ _ _ _ hr hA (fun x hx => hlt x (by simp [hx]))
  · rw [hfn, hv]
    rfl
end Go.Proofs.YtacchooggifnhaaDoor
namespace Go.Proofs.YtacchooggifnhaaDoor
open Go.RowKit Go.Sort
/-- The world has grown alone: new blocks, and draws. -/
def Grew (w w' : World) : Prop := Below w.heap.size w w' ∧ w.drawn ≤ w'.drawn
theorem Grew.form {w w' : World} (h : Grew w w') : ∃ q os, w' = grow (w.drewN q) os := by
  obtain ⟨⟨h1, h2, h3, h4, h5⟩, h6⟩ := h
  refine ⟨w'.drawn - w.drawn, w'.heap.extract w.heap.size w'.heap.size, ?_⟩
  cases w with | mk H T D O U =>
  cases w' with | mk H' T' D' O' U' =>
  simp only at h1 h2 h3 h4 h5 h6
  subst h1; subst h2; subst h3
  simp only [grow, World.drewN, World.mk.injEq, true_and]
  refine ⟨?_, by omega, trivial⟩
  apply Array.ext
  · simp; omega
  · intro i hi1 hi2
    by_cases hlt : i < H.size
    · have := h5 i hlt
      rw [Array.getElem?_eq_getElem hi1, Array.getElem?_eq_getElem hlt] at this
      rw [Array.getElem_append_left hlt]
      exact Option.some.inj this
    · rw [Array.getElem_append_right (by omega)]
      simp only [Array.getElem_extract]
      congr 1; omega
abbrev S2D (W : World) (b1 : Nat) (A1 : Array Value) (b2 : Nat) (A2 : Array Value) (w' : World) : Prop :=
  S2 W b1 A1 b2 A2 w' ∧ W.drawn ≤ w'.drawn
theorem S2D.start {W : World} {b1 : Nat} {A1 : Array Value} {b2 : Nat} {A2 : Array Value} (h1 : Box W b1 A1) (h2 : Box W b2 A2) : S2D W b1 A1 b2 A2 W.drew :=
  ⟨S2.start h1 h2, Nat.le_succ _⟩
theorem S2D.alloc {W w1 : World} {b1 : Nat} {A1 : Array Value} {b2 : Nat} {A2 : Array Value} {o : Obj} (h : S2D W b1 A1 b2 A2 w1) (h1 : Box W b1 A1) (h2 : Box W b2 A2) : S2D W b1 A1 b2 A2 (w1.alloc o) :=
  ⟨S2.ext (ext_alloc _ _) h.1 h1 h2, h.2⟩
theorem S2D.grew {w W w1 : World} {b1 : Nat} {A1 : Array Value} {b2 : Nat} {A2 : Array Value} (hw : Grew w W) (h : S2D W b1 A1 b2 A2 w1) : Grew w w1 :=
  ⟨ext_trans hw.1 h.1.1, Nat.le_trans hw.2 h.2⟩
theorem wp_box2d {P : Program} {c : Code} {Q : Exit → Act → World → Prop} {a : Act} {w : World} {A B : Array Value} {t u : TypeId}
    (h : ∀ W, Grew w W → Box W w.heap.size A → Box W (w.heap.size + 1) B → c.wp P Q a W) : c.wp P Q a ((w.alloc (.cells A t)).alloc (.cells B u)) := by
  refine h _ ⟨by go_grown, Nat.le_refl _⟩ ((Box.new _ _ _).ext (by go_grown)) ?_
  have := Box.new (w.alloc (.cells A t)) B u
  simpa using this
set_option maxHeartbeats 2000000 in
theorem event_order_g (a b : Ev) (w : World) : Calls Tryd.prog 25 #[.agg (evC a), .agg (evC b)] w fun e w' => e = .returned (.int .i64 (ordE a b)) ∧ Grew w w' := by
  have HO := Lib.hid (show orI (cmpS a.shard b.shard) (cmpI a.number b.number) = ordE a b from rfl)
  go_enter Tryd.func25, Tryd.ntmps25
  go_wp2_with fail
  refine wp_box2d fun W hbW hA hB => ?_
  go_region_held3 (S2D W w.heap.size (evC a) (w.heap.size + 1) (evC b)) (first | exact S2D.start hA hB | exact S2D.alloc (by assumption) hA hB | assumption) (first | (go_at_call 31; refine (strings_Compare _ _ _).mono ?_; rintro e w1 ⟨rfl, rfl⟩) | (go_at_call 38; refine (cmp_int _ _ _).mono ?_; rintro e w2 ⟨rfl, rfl⟩) | (go_at_call 37; refine (or_two (cmpS a.shard b.shard) (cmpI a.number b.number) _ _ (by simp) (by simp)).mono ?_; rintro e w3 ⟨rfl, rfl⟩))
  go_wp2
  go_ret
  exact ⟨ret_int HO.out, S2D.grew hbW (by assumption)⟩
theorem evL_one (x : Ev) : ∀ v ∈ evL x, v.oneCell' = true := by
  intro v hv
  simp only [evL, List.mem_cons, List.not_mem_nil, or_false] at hv
  rcases hv with rfl | rfl | rfl | rfl | rfl | rfl | rfl | rfl <;> rfl
instance : Inhabited Ev := ⟨⟨⟨#[]⟩, 0, 0, 0, ⟨#[]⟩, ⟨#[]⟩, 0, 0⟩⟩
theorem order_lays (blk off size : Nat) (w : World) : CmpLays Tryd.prog 25 #[] evL 8 ordE blk off size w := by
  intro m os dk _ x y
  refine (event_order_g x y _).mono ?_
  rintro e w' ⟨rfl, hg⟩
  exact ⟨rfl, hg.form⟩
theorem ordE_self (a : Ev) : ordE a a = 0 := by unfold ordE orI; rw [cmpS_self, cmpI_self]; rfl
theorem ordE_anti (a b : Ev) : ordE b a = - ordE a b := by
  unfold ordE orI; rw [cmpS_anti a.shard b.shard, cmpI_anti a.number b.number]
  by_cases h : cmpS a.shard b.shard = 0
  · simp [h]
  · rw [if_neg (by omega), if_neg h]
theorem ordE_zero {a b : Ev} : ordE a b = 0 ↔ a.shard = b.shard ∧ a.number = b.number := by
  unfold ordE orI
  constructor
  · intro h
    by_cases h1 : cmpS a.shard b.shard = 0
    · rw [if_pos h1] at h; exact ⟨cmpS_zero h1, cmpI_zero h⟩
    · rw [if_neg h1] at h; exact absurd h h1
  · rintro ⟨h1, h2⟩
    rw [h1, h2, cmpS_self, cmpI_self]; rfl
theorem ordE_trans {a b c : Ev} (h : ordE a b ≤ 0) (k : ordE b c ≤ 0) : ordE a c ≤ 0 := by
  unfold ordE orI at *
  by_cases h1 : cmpS a.shard b.shard = 0
  · have e := cmpS_zero h1
    simp only [h1, if_true] at h
    rw [e]
    by_cases h2 : cmpS b.shard c.shard = 0
    · simp only [h2, if_true] at k ⊢; exact cmpI_trans h k
    · simp only [h2, if_false] at k ⊢; exact k
  · simp only [h1, if_false] at h
    by_cases h2 : cmpS b.shard c.shard = 0
    · have e := cmpS_zero h2
      rw [← e]; simp only [h1, if_false]; exact h
    · simp only [h2, if_false] at k
      have h3 := cmpS_trans h k
      by_cases h4 : cmpS a.shard c.shard = 0
      · have e := cmpS_zero h4
        rw [← e, cmpS_anti a.shard b.shard] at k; omega
      · rw [if_neg h4]; exact h3
theorem ordE_lt_trans {a b c : Ev} (h : ordE a b < 0) (k : ordE b c < 0) : ordE a c < 0 := by
  have h1 : ordE a c ≤ 0 := @ordE_trans a b c (by omega) (by omega)
  rcases Int.lt_or_eq_of_le h1 with h2 | h2
  · exact h2
  · have h3 : ordE c a = 0 := by rw [ordE_anti, h2]; rfl
    have h4 : ordE c b ≤ 0 := @ordE_trans c a b (by omega) (by omega)
    rw [ordE_anti] at h4; omega
theorem ordE_swo : SWO (ltOf ordE) where
  irrefl x := by simp [ltOf, ordE_self]
  trans x y z h k := by simp only [ltOf, decide_eq_true_eq] at *; exact ordE_lt_trans h k
  ntrans x y z h k := by
    simp only [ltOf, decide_eq_false_iff_not, Int.not_lt] at *
    have h1 := ordE_anti x y; have h2 := ordE_anti y z; have h3 := ordE_anti x z
    have := @ordE_trans z y x (by omega) (by omega)
    omega
end Go.Proofs.YtacchooggifnhaaDoor
namespace Go.Proofs.YtacchooggifnhaaDoor
open Go.RowKit
theorem ev_ext {a b : Ev} (h0 : a.shard = b.shard) (h1 : a.number = b.number) (h2 : a.kind = b.kind) (h3 : a.time = b.time) (h4 : a.key = b.key) (h5 : a.name = b.name) (h6 : a.arm = b.arm) (h7 : a.n = b.n) : a = b := by
  cases a; cases b; simp_all
instance : DecidableEq Ev := fun a b => decidable_of_iff (a.shard = b.shard ∧ a.number = b.number ∧ a.kind = b.kind ∧ a.time = b.time ∧ a.key = b.key ∧ a.name = b.name ∧ a.arm = b.arm ∧ a.n = b.n)
  ⟨fun ⟨h0, h1, h2, h3, h4, h5, h6, h7⟩ => ev_ext h0 h1 h2 h3 h4 h5 h6 h7, fun h => by subst h; simp⟩
theorem toList_inj {a b : ByteArray} (h : a.toList = b.toList) : a = b := bytes_ext (by rw [← ByteArray.toList_eq, ← ByteArray.toList_eq]; exact h)
set_option maxHeartbeats 2000000 in
set_option maxRecDepth 100000 in
theorem equal_ev (x y : Ev) (w : World) : (Op.equalIn 10000 43 (.agg (evC x)) (.agg (evC y))).run Tryd.prog w = .ok (decide (x = y)) w := by
  have e1 : (Op.equalIn 10000 43 (.agg (evC x)) (.agg (evC y))).run Tryd.prog w = .ok (decide (x = y)) w := by
    rw [run_equalIn_struct w 9999 43 _ _ (by kernel_rfl) (by kernel_rfl)]
    go_simp
    by_cases hxy : x = y
    · subst hxy; simp
    · rw [decide_eq_false hxy]
      split
      · split
        · split
          · split
            · split
              · split
                · split
                  · split
                    · exact absurd (ev_ext (toList_inj ‹_›) ‹_› ‹_› ‹_› (toList_inj ‹x.key.toList = _›) (toList_inj ‹x.name.toList = _›) ‹_› ‹_›) hxy
                    · rfl
                  · rfl
                · rfl
              · rfl
            · rfl
          · rfl
        · rfl
      · rfl
  exact e1
theorem eql_ev (x y : Ev) (w : World) : (binOp .eql 43 (.agg (evC x)) (.agg (evC y))).run Tryd.prog w = .ok (.bool (decide (x = y))) w := by
  simp only [binOp]
  simp [Op.equal, Op.maxDepth, equal_ev x y w]
theorem neq_ev (x y : Ev) (w : World) : (binOp .neq 43 (.agg (evC x)) (.agg (evC y))).run Tryd.prog w = .ok (.bool (!decide (x = y))) w := by
  simp only [binOp]
  simp [Op.equal, Op.maxDepth, equal_ev x y w]
theorem guard_ev (op : BinOp) (a b : Operand) (x y : Ev) (w : World) : (eqGuard op 43 a b (.agg (evC x)) (.agg (evC y))).run Tryd.prog w = .ok () w :=
  run_eqGuard_agg w op _ a b _ _ (by kernel_rfl)
end Go.Proofs.YtacchooggifnhaaDoor
