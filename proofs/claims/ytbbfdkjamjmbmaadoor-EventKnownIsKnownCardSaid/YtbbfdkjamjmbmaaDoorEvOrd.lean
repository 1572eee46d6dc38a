/- The order of events in the form that the sort asks: the world grown alone. -/
import Derived.Test.YtbbfdkjamjmbmaaDoorEvent3
import Derived.Test.YtbbfdkjamjmbmaaDoorEvent4
import Derived.Shelf.SlSortCmp.KitK
namespace Go.Proofs.YtbbfdkjamjmbmaaDoor
open Go.RowKit Go.Sort
/-- The world has grown alone: new blocks, and draws. -/
def Grew (w w' : World) : Prop := Below w.heap.size w w' ∧ w.drawn ≤ w'.drawn
theorem Grew.form {w w' : World} (h : Grew w w') : ∃ q os, w' = grow (w.drewN q) os := by
  obtain ⟨⟨h1, h2, h3, h4, h5⟩, h6⟩ := h
  refine ⟨w'.drawn - w.drawn, w'.heap.extract w.heap.size w'.heap.size, ?_⟩
  cases w with | mk H T D O U =>
  cases w' with | mk H' T' D' O' U' =>
  simp only at h1 h2 h3 h4 h5 h6
  subst h1; subst h2; subst h3
  simp only [grow, World.drewN, World.mk.injEq, true_and]
  refine ⟨?_, by omega, trivial⟩
  apply Array.ext
  · simp; omega
  · intro i hi1 hi2
    by_cases hlt : i < H.size
    · have := h5 i hlt
      rw [Array.getElem?_eq_getElem hi1, Array.getElem?_eq_getElem hlt] at this
      rw [Array.getElem_append_left hlt]
      exact Option.some.inj this
    · rw [Array.getElem_append_right (by omega)]
      simp only [Array.getElem_extract]
      congr 1; omega
abbrev S2D (W : World) (b1 : Nat) (A1 : Array Value) (b2 : Nat) (A2 : Array Value) (w' : World) : Prop :=
  S2 W b1 A1 b2 A2 w' ∧ W.drawn ≤ w'.drawn
theorem S2D.start {W : World} {b1 : Nat} {A1 : Array Value} {b2 : Nat} {A2 : Array Value} (h1 : Box W b1 A1) (h2 : Box W b2 A2) : S2D W b1 A1 b2 A2 W.drew :=
  ⟨S2.start h1 h2, Nat.le_succ _⟩
theorem S2D.alloc {W w1 : World} {b1 : Nat} {A1 : Array Value} {b2 : Nat} {A2 : Array Value} {o : Obj} (h : S2D W b1 A1 b2 A2 w1) (h1 : Box W b1 A1) (h2 : Box W b2 A2) : S2D W b1 A1 b2 A2 (w1.alloc o) :=
  ⟨S2.ext (ext_alloc _ _) h.1 h1 h2, h.2⟩
theorem S2D.grew {w W w1 : World} {b1 : Nat} {A1 : Array Value} {b2 : Nat} {A2 : Array Value} (hw : Grew w W) (h : S2D W b1 A1 b2 A2 w1) : Grew w w1 :=
  ⟨ext_trans hw.1 h.1.1, Nat.le_trans hw.2 h.2⟩
theorem wp_box2d {P : Program} {c : Code} {Q : Exit → Act → World → Prop} {a : Act} {w : World} {A B : Array Value} {t u : TypeId}
    (h : ∀ W, Grew w W → Box W w.heap.size A → Box W (w.heap.size + 1) B → c.wp P Q a W) : c.wp P Q a ((w.alloc (.cells A t)).alloc (.cells B u)) := by
  refine h _ ⟨by go_grown, Nat.le_refl _⟩ ((Box.new _ _ _).ext (by go_grown)) ?_
  have := Box.new (w.alloc (.cells A t)) B u
  simpa using this
set_option maxHeartbeats 2000000 in
theorem event_order_g (a b : Ev) (w : World) : Calls Tryd.prog 23 #[.agg (evC a), .agg (evC b)] w fun e w' => e = .returned (.int .i64 (ordE a b)) ∧ Grew w w' := by
  have HO := Lib.hid (show orI (cmpS a.shard b.shard) (cmpI a.number b.number) = ordE a b from rfl)
  go_enter Tryd.func23, Tryd.ntmps23
  go_wp2_with fail
  refine wp_box2d fun W hbW hA hB => ?_
  go_region_held3 (S2D W w.heap.size (evC a) (w.heap.size + 1) (evC b)) (first | exact S2D.start hA hB | exact S2D.alloc (by assumption) hA hB | assumption) (first | (go_at_call 33; refine (strings_Compare _ _ _).mono ?_; rintro e w1 ⟨rfl, rfl⟩) | (go_at_call 34; refine (cmp_int _ _ _).mono ?_; rintro e w2 ⟨rfl, rfl⟩) | (go_at_call 32; refine (or_two (cmpS a.shard b.shard) (cmpI a.number b.number) _ _ (by simp) (by simp)).mono ?_; rintro e w3 ⟨rfl, rfl⟩))
  go_wp2
  go_ret
  exact ⟨ret_int HO.out, S2D.grew hbW (by assumption)⟩
theorem evL_one (x : Ev) : ∀ v ∈ evL x, v.oneCell' = true := by
  intro v hv
  simp only [evL, evC, List.mem_cons, List.not_mem_nil, or_false] at hv
  rcases hv with rfl | rfl | rfl | rfl | rfl | rfl | rfl | rfl <;> rfl
instance : Inhabited Ev := ⟨⟨⟨#[]⟩, 0, 0, 0, ⟨#[]⟩, ⟨#[]⟩, 0, 0⟩⟩
theorem order_lays (blk off size : Nat) (w : World) : CmpLays Tryd.prog 23 #[] evL 8 ordE blk off size w := by
  intro m os dk _ x y
  refine (event_order_g x y _).mono ?_
  rintro e w' ⟨rfl, hg⟩
  exact ⟨rfl, hg.form⟩
theorem ordE_self (a : Ev) : ordE a a = 0 := by unfold ordE orI; rw [cmpS_self, cmpI_self]; rfl
theorem ordE_anti (a b : Ev) : ordE b a = - ordE a b := by
  unfold ordE orI; rw [cmpS_anti a.shard b.shard, cmpI_anti a.number b.number]
  by_cases h : cmpS a.shard b.shard = 0
  · simp [h]
  · rw [if_neg (by omega), if_neg h]
theorem ordE_zero {a b : Ev} : ordE a b = 0 ↔ a.shard = b.shard ∧ a.number = b.number := by
  unfold ordE orI
  constructor
  · intro h
    by_cases h1 : cmpS a.shard b.shard = 0
    · rw [if_pos h1] at h; exact ⟨cmpS_zero h1, cmpI_zero h⟩
    · rw [if_neg h1] at h; exact absurd h h1
  · rintro ⟨h1, h2⟩
    rw [h1, h2, cmpS_self, cmpI_self]; rfl
theorem ordE_trans {a b c : Ev} (h : ordE a b ≤ 0) (k : ordE b c ≤ 0) : ordE a c ≤ 0 := by
  unfold ordE orI at *
  by_cases h1 : cmpS a.shard b.shard = 0
  · have e := cmpS_zero h1
    simp only [h1, if_true] at h
    rw [e]
    by_cases h2 : cmpS b.shard c.shard = 0
    · simp only [h2, if_true] at k ⊢; exact cmpI_trans h k
    · simp only [h2, if_false] at k ⊢; exact k
  · simp only [h1, if_false] at h
    by_cases h2 : cmpS b.shard c.shard = 0
    · have e := cmpS_zero h2
      rw [← e]; simp only [h1, if_false]; exact h
    · simp only [h2, if_false] at k
      have h3 := cmpS_trans h k
      by_cases h4 : cmpS a.shard c.shard = 0
      · have e := cmpS_zero h4
        rw [← e, cmpS_anti a.shard b.shard] at k; omega
      · rw [if_neg h4]; exact h3
theorem ordE_lt_trans {a b c : Ev} (h : ordE a b < 0) (k : ordE b c < 0) : ordE a c < 0 := by
  have h1 : ordE a c ≤ 0 := @ordE_trans a b c (by omega) (by omega)
  rcases Int.lt_or_eq_of_le h1 with h2 | h2
  · exact h2
  · have h3 : ordE c a = 0 := by rw [ordE_anti, h2]; rfl
    have h4 : ordE c b ≤ 0 := @ordE_trans c a b (by omega) (by omega)
    rw [ordE_anti] at h4; omega
theorem ordE_swo : SWO (ltOf ordE) where
  irrefl x := by simp [ltOf, ordE_self]
  trans x y z h k := by simp only [ltOf, decide_eq_true_eq] at *; exact ordE_lt_trans h k
  ntrans x y z h k := by
    simp only [ltOf, decide_eq_false_iff_not, Int.not_lt] at *
    have h1 := ordE_anti x y; have h2 := ordE_anti y z; have h3 := ordE_anti x z
    have := @ordE_trans z y x (by omega) (by omega)
    omega
end Go.Proofs.YtbbfdkjamjmbmaaDoor
