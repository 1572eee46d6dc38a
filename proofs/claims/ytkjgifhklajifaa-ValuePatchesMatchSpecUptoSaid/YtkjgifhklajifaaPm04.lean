/- slices.Clone at values and at fields. Printed by gen_vclo.py. Plain: how many parts a value has, and how many levels; what the reference counts. No program stands in it. -/
import Derived.Test.YtkjgifhklajifaaPm02
import Derived.Deep.OwnRows
import Derived.Deep.DeepAppendRoom
namespace Go.Proofs.Ytkjgifhklajifaa
open Go.RowKit
namespace Fd
theorem vI : (Try.prog.info? 25).map (fun i => (i.zero, i.size, i.bytes)) = some (some (.agg #[.int .i64 0, .int .i64 0, .string ⟨#[]⟩, .slice none 0 0, .slice none 0 0]), 5, 80) := by kernel_rfl
theorem fI : (Try.prog.info? 38).map (fun i => (i.zero, i.size, i.bytes)) = some (some (.agg #[.string ⟨#[]⟩, .int .i64 0, .int .i64 0, .string ⟨#[]⟩, .slice none 0 0, .slice none 0 0]), 6, 96) := by kernel_rfl
theorem cloneV_nil (w : World) : Calls Try.prog 41 #[.slice none 0 0] w fun e w' => e = .returned (.slice none 0 0) ∧ w = w' := by
  have hnil := fun wx => Lib.run_eql_slice_nil (P := Try.prog) wx 22 25 none 0 0 0 0 Try.underlying22
  go_enter Try.func41, Try.ntmps41
  go_wp2
  go_ret
  exact ⟨rfl, rfl⟩
set_option maxRecDepth 100000 in
theorem cloneV_at (n : Nat) (xs : List Value) (a : Option Addr) (c : Nat) (w : World) (hs : Sl w (.slice a n c) n xs) (hl : xs.length = n * 5) (h1 : ∀ u ∈ xs, u.oneCell' = true) (hb : n * 80 ≤ 140737488355328) :
    Calls Try.prog 41 #[.slice a n c] w fun e w' => ∃ a' c', e = .returned (.slice a' n c') ∧ w'.ownsRow w.heap.size 25 5 (.slice a' n c') n xs ∧ Below w.heap.size w w' := by
  have hnil := fun wx => Lib.run_eql_slice_nil (P := Try.prog) wx 22 25 a n c 0 0 Try.underlying22
  have HB := Lib.hid vI
  cases a with
  | none =>
    obtain ⟨_, _, hv, k1, _, h4, _⟩ := hs
    cases hv
    have hc0 := h4 rfl
    subst hc0
    obtain rfl : n = 0 := by omega
    have hx : xs = [] := List.length_eq_zero_iff.1 (by omega)
    subst hx
    refine (cloneV_nil w).mono ?_
    rintro e w' ⟨rfl, rfl⟩
    exact ⟨none, 0, rfl, World.ownsRow_nil _ _ _ _, Below.refl _ _⟩
  | some p =>
    have hns : n ≤ maxLen := by obtain ⟨_, _, hv, k1, k2, _⟩ := hs; cases hv; omega
    go_enter Try.func41, Try.ntmps41
    have hown0 : (w.alloc (Obj.cells #[] 25)).ownsRow w.heap.size 25 5 (.slice (some ⟨w.heap.size, 0, none⟩) 0 0) 0 [] := ⟨rfl, .inr ⟨w.heap.size, 0, #[], rfl, Nat.le_refl _, heap_alloc_new w _, Nat.le_refl _, Nat.zero_le _, rfl, rfl⟩⟩
    have hs2 := hs.ext (w' := w.alloc (Obj.cells #[] 25)) (by go_grown)
    go_wp2_with (at_builtin; refine wpList_append_sl rfl _ _ 22 rfl w.heap.size 25 Try.underlying22 HB.out rfl (by decide) rfl hown0 rfl hs2 ?c1 h1 ?c2 ?c3 ?c4 ?_; rotate_left 4; intro v2 w2 hown2 hg2 hv2)
    case c1 => exact hl
    case c2 => omega
    case c3 => omega
    case c4 => simp
    have hb2 : Below w.heap.size w w2 := Below.grown (show Below w.heap.size w (w.alloc (Obj.cells #[] 25)) by go_grown) hg2 (by simp) (fun k e => by cases e; exact Nat.le_refl _)
    rw [List.nil_append, Nat.zero_add] at hown2
    obtain ⟨ga, cap, rfl⟩ : ∃ ga cap, v2 = .slice ga n cap := by
      obtain ⟨h1, ⟨rfl, h2⟩ | ⟨g, cap, cur, rfl, _⟩⟩ := hown2
      · exact ⟨none, 0, by rw [h2]⟩
      · exact ⟨_, cap, rfl⟩
    clear hown0 hs2 hg2 hv2
    go_wp2
    go_ret
    exact ⟨ga, cap, rfl, hown2, hb2⟩
theorem cloneF_nil (w : World) : Calls Try.prog 42 #[.slice none 0 0] w fun e w' => e = .returned (.slice none 0 0) ∧ w = w' := by
  have hnil := fun wx => Lib.run_eql_slice_nil (P := Try.prog) wx 23 38 none 0 0 0 0 Try.underlying23
  go_enter Try.func42, Try.ntmps42
  go_wp2
  go_ret
  exact ⟨rfl, rfl⟩
set_option maxRecDepth 100000 in
theorem cloneF_at (n : Nat) (xs : List Value) (a : Option Addr) (c : Nat) (w : World) (hs : Sl w (.slice a n c) n xs) (hl : xs.length = n * 6) (h1 : ∀ u ∈ xs, u.oneCell' = true) (hb : n * 96 ≤ 140737488355328) :
    Calls Try.prog 42 #[.slice a n c] w fun e w' => ∃ a' c', e = .returned (.slice a' n c') ∧ w'.ownsRow w.heap.size 38 6 (.slice a' n c') n xs ∧ Below w.heap.size w w' := by
  have hnil := fun wx => Lib.run_eql_slice_nil (P := Try.prog) wx 23 38 a n c 0 0 Try.underlying23
  have HB := Lib.hid fI
  cases a with
  | none =>
    obtain ⟨_, _, hv, k1, _, h4, _⟩ := hs
    cases hv
    have hc0 := h4 rfl
    subst hc0
    obtain rfl : n = 0 := by omega
    have hx : xs = [] := List.length_eq_zero_iff.1 (by omega)
    subst hx
    refine (cloneF_nil w).mono ?_
    rintro e w' ⟨rfl, rfl⟩
    exact ⟨none, 0, rfl, World.ownsRow_nil _ _ _ _, Below.refl _ _⟩
  | some p =>
    have hns : n ≤ maxLen := by obtain ⟨_, _, hv, k1, k2, _⟩ := hs; cases hv; omega
    go_enter Try.func42, Try.ntmps42
    have hown0 : (w.alloc (Obj.cells #[] 38)).ownsRow w.heap.size 38 6 (.slice (some ⟨w.heap.size, 0, none⟩) 0 0) 0 [] := ⟨rfl, .inr ⟨w.heap.size, 0, #[], rfl, Nat.le_refl _, heap_alloc_new w _, Nat.le_refl _, Nat.zero_le _, rfl, rfl⟩⟩
    have hs2 := hs.ext (w' := w.alloc (Obj.cells #[] 38)) (by go_grown)
    go_wp2_with (at_builtin; refine wpList_append_sl rfl _ _ 23 rfl w.heap.size 38 Try.underlying23 HB.out rfl (by decide) rfl hown0 rfl hs2 ?c1 h1 ?c2 ?c3 ?c4 ?_; rotate_left 4; intro v2 w2 hown2 hg2 hv2)
    case c1 => exact hl
    case c2 => omega
    case c3 => omega
    case c4 => simp
    have hb2 : Below w.heap.size w w2 := Below.grown (show Below w.heap.size w (w.alloc (Obj.cells #[] 38)) by go_grown) hg2 (by simp) (fun k e => by cases e; exact Nat.le_refl _)
    rw [List.nil_append, Nat.zero_add] at hown2
    obtain ⟨ga, cap, rfl⟩ : ∃ ga cap, v2 = .slice ga n cap := by
      obtain ⟨h1, ⟨rfl, h2⟩ | ⟨g, cap, cur, rfl, _⟩⟩ := hown2
      · exact ⟨none, 0, by rw [h2]⟩
      · exact ⟨_, cap, rfl⟩
    clear hown0 hs2 hg2 hv2
    go_wp2
    go_ret
    exact ⟨ga, cap, rfl, hown2, hb2⟩
end Fd
end Go.Proofs.Ytkjgifhklajifaa
namespace Go.Proofs.Ytkjgifhklajifaa
namespace Fd
mutual
def pN : V → Nat
  | .mk _ _ _ is fs => 1 + pNL is + pNF fs
def pNL : List V → Nat
  | [] => 0
  | x :: r => pN x + pNL r
def pNF : List F → Nat
  | [] => 0
  | .mk _ x :: r => pN x + pNF r
end
/- levels, in 64 bits -/
mutual
def cW : V → Int
  | .mk _ _ _ is fs => IntKind.i64.wrap (max (cWL is) (cWF fs) + 1)
def cWL : List V → Int
  | [] => 0
  | x :: r => max (cW x) (cWL r)
def cWF : List F → Int
  | [] => 0
  | .mk _ x :: r => max (cW x) (cWF r)
end
mutual
def lv : V → Nat
  | .mk _ _ _ is fs => 1 + max (lvL is) (lvF fs)
def lvL : List V → Nat
  | [] => 0
  | x :: r => max (lv x) (lvL r)
def lvF : List F → Nat
  | [] => 0
  | .mk _ x :: r => max (lv x) (lvF r)
end
theorem pN_pos (v : V) : 1 ≤ pN v := by cases v; unfold pN; omega
mutual
theorem lv_le : ∀ v : V, lv v ≤ pN v
  | .mk _ _ _ is fs => by
    have h1 := lvL_le is
    have h2 := lvF_le fs
    unfold lv pN; omega
theorem lvL_le : ∀ l : List V, lvL l ≤ pNL l
  | [] => by unfold lvL pNL; omega
  | x :: r => by
    have h1 := lv_le x
    have h2 := lvL_le r
    unfold lvL pNL; omega
theorem lvF_le : ∀ l : List F, lvF l ≤ pNF l
  | [] => by unfold lvF pNF; omega
  | .mk _ x :: r => by
    have h1 := lv_le x
    have h2 := lvF_le r
    unfold lvF pNF; omega
end
mutual
theorem cW_is : ∀ v : V, pN v ≤ 1000000000 → cW v = (lv v : Int)
  | .mk _ _ _ is fs, h => by
    unfold pN at h
    have h1 := cWL_is is (by omega)
    have h2 := cWF_is fs (by omega)
    have h3 := lvL_le is
    have h4 := lvF_le fs
    unfold cW lv
    rw [h1, h2, IntKind.wrap_i64]
    omega
theorem cWL_is : ∀ l : List V, pNL l ≤ 1000000000 → cWL l = (lvL l : Int)
  | [], _ => by unfold cWL lvL; rfl
  | x :: r, h => by
    unfold pNL at h
    have h1 := cW_is x (by omega)
    have h2 := cWL_is r (by omega)
    unfold cWL lvL
    rw [h1, h2]; omega
theorem cWF_is : ∀ l : List F, pNF l ≤ 1000000000 → cWF l = (lvF l : Int)
  | [], _ => by unfold cWF lvF; rfl
  | .mk _ x :: r, h => by
    unfold pNF at h
    have h1 := cW_is x (by omega)
    have h2 := cWF_is r (by omega)
    unfold cWF lvF
    rw [h1, h2]; omega
end
/-- what Check says of a value: too many parts or levels, or what is wrong with a part -/
def chkF (v : V) : Int := if 1000 < IntKind.i64.wrap (pN v : Int) ∨ 8 < cW v then 2 else chkV v
/-- is a value too large at a level? -/
def bigAt (level : Nat) (v : V) : Prop := 8 < level - 1 + lv v ∨ 1000 < pN v
/-- what the reference counts of a value at a level: n parts, d: one is too deep -/
def RefP (level : Nat) (v : V) (n : Int) (d : Bool) : Prop := ((d = true ∨ 1000 < n) ↔ bigAt level v) ∧ (¬ (d = true ∨ 1000 < n) → n = pN v) ∧ 1 ≤ n ∧ n ≤ pN v
theorem chkF_is {v : V} (h : pN v ≤ 1000000000) {n : Int} {d : Bool} (hr : RefP 1 v n d) : chkF v = if d = true ∨ 1000 < n then 2 else chkV v := by
  have h1 : (1000 < IntKind.i64.wrap (pN v : Int) ∨ 8 < cW v) ↔ bigAt 1 v := by
    rw [cW_is v h, IntKind.wrap_i64]
    unfold bigAt
    omega
  unfold chkF
  by_cases hb : bigAt 1 v
  · rw [if_pos (h1.2 hb), if_pos (hr.1.2 hb)]
  · rw [if_neg (fun e => hb (h1.1 e)), if_neg (fun e => hb (hr.1.1 e))]
/-- the values within a value -/
def inner (v : V) : List V := items v ++ (fields v).map vlF
theorem pNL_append (a b : List V) : pNL (a ++ b) = pNL a + pNL b := by
  induction a with
  | nil => unfold pNL; simp
  | cons x r ih => rw [List.cons_append, pNL, pNL, ih]; omega
theorem lvL_append (a b : List V) : lvL (a ++ b) = max (lvL a) (lvL b) := by
  induction a with
  | nil => simp [lvL]
  | cons x r ih => rw [List.cons_append, lvL, lvL, ih]; omega
theorem pNF_map (l : List F) : pNF l = pNL (l.map vlF) := by
  induction l with
  | nil => simp [pNF, pNL]
  | cons f r ih => cases f; rw [List.map_cons, pNL, pNF, ih]; rfl
theorem lvF_map (l : List F) : lvF l = lvL (l.map vlF) := by
  induction l with
  | nil => simp [lvF, lvL]
  | cons f r ih => cases f; rw [List.map_cons, lvL, lvF, ih]; rfl
theorem pN_inner (v : V) : pN v = 1 + pNL (inner v) := by
  obtain ⟨k, n, s, is, fs⟩ := v
  show pN (.mk k n s is fs) = 1 + pNL (is ++ fs.map vlF)
  rw [pN, pNL_append, ← pNF_map]; omega
theorem lv_inner (v : V) : lv v = 1 + lvL (inner v) := by
  obtain ⟨k, n, s, is, fs⟩ := v
  show lv (.mk k n s is fs) = 1 + lvL (is ++ fs.map vlF)
  rw [lv, lvL_append, ← lvF_map]
/-- what holds of the count when the first values within have been looked at -/
structure CntI (level : Nat) (v : V) (done : List V) (n : Int) (d : Bool) : Prop where
  big : (d = true ∨ 1000 < n) → bigAt level v
  ok : ¬ (d = true ∨ 1000 < n) → n = 1 + (pNL done : Int) ∧ level ≤ 8 ∧ level + lvL done ≤ 8
  lo : 1 ≤ n
  hi : n ≤ 1 + (pNL done : Int)
theorem CntI.start {level : Nat} {v : V} (h : 1 ≤ level) : CntI level v [] 1 (decide (8 < level)) := by
  have h1 := lv_inner v
  refine ⟨fun h2 => ?_, fun h2 => ?_, by omega, by simp [pNL]⟩
  · rcases h2 with h2 | h2
    · have := of_decide_eq_true h2
      left; omega
    · omega
  · have h3 : ¬ 8 < level := fun e => h2 (.inl (decide_eq_true e))
    simp only [pNL, lvL]
    omega
theorem pNL_mem : ∀ {l : List V} {x : V}, x ∈ l → pN x ≤ pNL l ∧ lv x ≤ lvL l
  | [], _, h => by cases h
  | y :: r, x, h => by
    unfold pNL lvL
    rcases List.mem_cons.1 h with rfl | h
    · omega
    · have := pNL_mem h
      omega
theorem CntI.step {level : Nat} {v x : V} {done rest : List V} {n m : Int} {d e : Bool} (hin : inner v = done ++ x :: rest) (h : CntI level v done n d) (hn : ¬ (d = true ∨ 1000 < n)) (hl : 1 ≤ level) (hx : RefP (level + 1) x m e) : CntI level v (done ++ [x]) (n + m) (d || e) := by
  obtain ⟨k1, k2, k3⟩ := h.ok hn
  obtain ⟨r1, r2, r3, r4⟩ := hx
  have hd : d = false := by cases d; rfl; exact absurd (.inl rfl) hn
  subst hd
  have hp := pN_inner v
  have hv := lv_inner v
  rw [hin, pNL_append] at hp
  rw [hin, lvL_append] at hv
  simp only [pNL] at hp
  simp only [lvL] at hv
  have hpd : pNL (done ++ [x]) = pNL done + pN x := by rw [pNL_append]; simp [pNL]
  have hld : lvL (done ++ [x]) = max (lvL done) (lv x) := by rw [lvL_append]; simp [lvL]
  refine ⟨fun hb => ?_, fun hb => ?_, by omega, by rw [hpd]; omega⟩
  · unfold bigAt
    by_cases hxb : bigAt (level + 1) x
    · unfold bigAt at hxb; omega
    · have := r2 (fun e => hxb (r1.1 e))
      have hne : ¬ (e = true) := fun e9 => hxb (r1.1 (.inl e9))
      rcases hb with hb | hb
      · simp only [Bool.false_or] at hb; exact absurd hb hne
      · omega
  · have hxb : ¬ (e = true ∨ 1000 < m) := fun e9 => by
      refine hb ?_
      rcases e9 with e9 | e9
      · exact .inl (by rw [e9]; rfl)
      · exact .inr (by omega)
    have h5 := r2 hxb
    have h6 : ¬ bigAt (level + 1) x := fun e9 => hxb (r1.2 e9)
    unfold bigAt at h6
    rw [hpd, hld]
    omega
theorem CntI.fin {level : Nat} {v : V} {n : Int} {d : Bool} (h : CntI level v (inner v) n d) (hl : 1 ≤ level) : RefP level v n d := by
  have hp := pN_inner v
  have hv := lv_inner v
  refine ⟨⟨h.big, fun hb => Classical.byContradiction fun hn => ?_⟩, fun hn => ?_, h.lo, by have := h.hi; omega⟩
  · obtain ⟨k1, k2, k3⟩ := h.ok hn
    unfold bigAt at hb
    omega
  · obtain ⟨k1, k2, k3⟩ := h.ok hn
    omega
theorem CntI.brk {level : Nat} {v : V} {done rest : List V} {n : Int} {d : Bool} (hin : inner v = done ++ rest) (h : CntI level v done n d) (hb : d = true ∨ 1000 < n) : RefP level v n d := by
  have hp := pN_inner v
  rw [hin, pNL_append] at hp
  exact ⟨⟨h.big, fun _ => hb⟩, fun hn => absurd hb hn, h.lo, by have := h.hi; omega⟩
end Fd
end Go.Proofs.Ytkjgifhklajifaa
