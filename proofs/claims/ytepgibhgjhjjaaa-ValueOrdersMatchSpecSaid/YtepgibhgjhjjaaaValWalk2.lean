/- value.compareFields and value.Compare. -/
import Derived.Test.YtepgibhgjhjjaaaValWalk
namespace Go.Proofs.Ytepgibhgjhjjaaa
open Go.RowKit
theorem ext_alloc (w : World) (o : Obj) : Below w.heap.size w (w.alloc o) := (Below.refl _ _).alloc (Nat.le_refl _) _
set_option maxHeartbeats 1000000 in
theorem compareFields_at (nm : ByteArray) (x : V) (hx : CmpAt 8 x) : CmpFAt 19 (.mk nm x) := by
  intro y cs cs' w h h'
  cases y with | mk nm' y =>
  simp only [RepF] at h h'
  obtain ⟨c, rfl, hn, h⟩ := h
  obtain ⟨c', rfl, hn', h'⟩ := h'
  obtain ⟨kx, nx, sx, a1, m1, q1, a2, m2, q2, rfl⟩ := cells5 h
  obtain ⟨ky, ny, sy, a3, m3, q3, a4, m4, q4, rfl⟩ := cells5 h'
  simp only [cmpF]
  have HX := Lib.hid hx
  clear hx
  go_enter Try.func19, Try.ntmps19
  go_wp2_with fail
  refine wp_box2 fun W hsz hbW hA hB => ?_
  have HR := Lib.hid (h.ext hbW)
  have HR' := Lib.hid (h'.ext hbW)
  go_region_held3 (S2 W w.heap.size #[Value.string nm, Value.int IntKind.i64 kx, Value.int IntKind.i64 nx, Value.string sx, Value.slice a1 m1 q1, Value.slice a2 m2 q2] (w.heap.size + 1) #[Value.string nm', Value.int IntKind.i64 ky, Value.int IntKind.i64 ny, Value.string sy, Value.slice a3 m3 q3, Value.slice a4 m4 q4])
    (first | exact S2.start hA hB | exact S2.ext (by assumption) (by assumption) hA hB | exact S2.ext (ext_alloc _ _) (by assumption) hA hB | assumption)
    (first | (go_at_call 16; refine (strings_Compare _ _ _).mono ?_; rintro e w1 ⟨rfl, rfl⟩) | (go_at_call 8; refine (HX.out y _ _ _ (HR.out.ext (S2.base (by assumption))) (HR'.out.ext (S2.base (by assumption)))).mono ?_; rintro e w2 ⟨rfl, hb2⟩) | (go_at_call 32; refine (or_two (cmpS nm nm') (cmpV x y) _ _ (by simp) (by simp)).mono ?_; rintro e w3 ⟨rfl, rfl⟩))
  go_wp2
  go_ret
  exact ⟨rfl, ext_trans hbW (S2.base (by assumption))⟩

set_option maxHeartbeats 2000000 in
theorem compare_step (k n : Int) (s : ByteArray) (is : List V) (fs : List F) (hi : ∀ x ∈ is, CmpAt 8 x) (hf : ∀ x ∈ fs, CmpFAt 19 x) : CmpAt 8 (.mk k n s is fs) := by
  intro y cs cs' w h h'
  cases y with | mk k' n' s' is' fs' =>
  simp only [RepV] at h h'
  obtain ⟨vi, vf, ics, fcs, rfl, ok1, ok2, hs, si, ri, sf, rf⟩ := h
  obtain ⟨vi', vf', ics', fcs', rfl, ok1', ok2', hs', si', ri', sf', rf'⟩ := h'
  obtain ⟨a1, q1, rfl, si0⟩ := id si
  obtain ⟨a2, q2, rfl, sf0⟩ := id sf
  obtain ⟨a3, q3, rfl, si0'⟩ := id si'
  obtain ⟨a4, q4, rfl, sf0'⟩ := id sf'
  clear si0 sf0 si0' sf0' ok1 ok2 ok1' ok2'
  have HI := Lib.hid hi
  have HF := Lib.hid hf
  clear hi hf
  by_cases hk : k = k'
  · subst hk
    have hne : (k != k) = false := by simp
    by_cases h12 : k = 1 ∨ k = 2
    · have hv : cmpV (.mk k n s is fs) (.mk k n' s' is' fs') = cmpI n n' := by simp only [cmpV]; rw [if_neg (by simp), if_pos h12]
      rw [hv]
      clear hv
      rcases h12 with rfl | rfl
      all_goals
        go_enter Try.func8, Try.ntmps8
        go_wp2_with (go_at_call 15; refine (cmp_int _ _ _).mono ?_; rintro e w1 ⟨rfl, rfl⟩)
        go_ret
        exact ⟨rfl, by go_grown⟩
    · have h1 : (k == 1) = false := by simp; omega
      have h2 : (k == 2) = false := by simp; omega
      by_cases h3 : k = 3
      · have hv : cmpV (.mk k n s is fs) (.mk k n' s' is' fs') = cmpS s s' := by simp only [cmpV]; rw [if_neg (by simp), if_neg h12, if_pos h3]
        rw [hv]
        clear hv h12 h1 h2 hne
        subst h3
        go_enter Try.func8, Try.ntmps8
        go_wp2_with (go_at_call 16; refine (strings_Compare _ _ _).mono ?_; rintro e w1 ⟨rfl, rfl⟩)
        go_ret
        exact ⟨rfl, by go_grown⟩
      · by_cases h4 : k = 4
        · have hv : cmpV (.mk k n s is fs) (.mk k n' s' is' fs') = cmpL is is' := by simp only [cmpV]; rw [if_neg (by simp), if_neg h12, if_neg h3, if_pos h4]
          rw [hv]
          clear hv h12 h1 h2 hne h3
          subst h4
          go_enter Try.func8, Try.ntmps8
          go_wp2_with fail
          refine (compareFunc_items is is' a1 a3 q1 q3 ics ics' _ (si.ext ?_) (si'.ext ?_) (ri.ext ?_) (ri'.ext ?_) HI.out).mono ?_
          · go_grown
          · go_grown
          · go_grown
          · go_grown
          rintro e w1 ⟨rfl, hb1⟩
          go_wp2
          go_ret
          exact ⟨rfl, Below.trans (by go_grown) (hb1.mono (by simp; omega))⟩
        · by_cases h5 : k = 5
          · have hv : cmpV (.mk k n s is fs) (.mk k n' s' is' fs') = cmpFs fs fs' := by simp only [cmpV]; rw [if_neg (by simp), if_neg h12, if_neg h3, if_neg h4, if_pos h5]
            rw [hv]
            clear hv h12 h1 h2 hne h3 h4
            subst h5
            go_enter Try.func8, Try.ntmps8
            go_wp2_with fail
            refine (compareFunc_fields fs fs' a2 a4 q2 q4 fcs fcs' _ (sf.ext ?_) (sf'.ext ?_) (rf.ext ?_) (rf'.ext ?_) HF.out).mono ?_
            · go_grown
            · go_grown
            · go_grown
            · go_grown
            rintro e w1 ⟨rfl, hb1⟩
            go_wp2
            go_ret
            exact ⟨rfl, Below.trans (by go_grown) (hb1.mono (by simp; omega))⟩
          · have hv : cmpV (.mk k n s is fs) (.mk k n' s' is' fs') = 0 := by simp only [cmpV]; rw [if_neg (by simp), if_neg h12, if_neg h3, if_neg h4, if_neg h5]
            have e3 : (k == 3) = false := by simp [h3]
            have e4 : (k == 4) = false := by simp [h4]
            have e5 : (k == 5) = false := by simp [h5]
            rw [hv]
            clear hv h12 h3 h4 h5
            go_enter Try.func8, Try.ntmps8
            go_wp2
            go_ret
            exact ⟨rfl, by go_grown⟩
  · have hv : cmpV (.mk k n s is fs) (.mk k' n' s' is' fs') = cmpI k k' := by simp only [cmpV]; rw [if_pos hk]
    have hne : (k != k') = true := by simp [hk]
    rw [hv]
    clear hv hk
    go_enter Try.func8, Try.ntmps8
    go_wp2_with (go_at_call 15; refine (cmp_int _ _ _).mono ?_; rintro e w1 ⟨rfl, rfl⟩)
    go_ret
    exact ⟨rfl, by go_grown⟩
mutual
theorem compare_at : ∀ x : V, CmpAt 8 x
  | .mk k n s is fs => compare_step k n s is fs (compare_items is) (compare_fields fs)
theorem compare_items : ∀ l : List V, ∀ x ∈ l, CmpAt 8 x
  | [] => fun _ h => by cases h
  | y :: l => fun x h => (List.mem_cons.1 h).elim (fun e => e ▸ compare_at y) (fun h => compare_items l x h)
theorem compare_field : ∀ x : F, CmpFAt 19 x
  | .mk nm x => compareFields_at nm x (compare_at x)
theorem compare_fields : ∀ l : List F, ∀ x ∈ l, CmpFAt 19 x
  | [] => fun _ h => by cases h
  | y :: l => fun x h => (List.mem_cons.1 h).elim (fun e => e ▸ compare_field y) (fun h => compare_fields l x h)
end
end Go.Proofs.Ytepgibhgjhjjaaa
