/- Subjects and what counts for them: what Subjects and Returned answer; rows of subjects, cell by cell. Printed by gen_suba.py. -/
import Derived.Test.YtacchooggifnhaaDoorCl17
import Derived.Test.YtacchooggifnhaaDoorCl08
import Derived.Test.YtacchooggifnhaaDoorCl09
import Derived.Test.YtacchooggifnhaaDoorCl90
namespace Go.Proofs.YtacchooggifnhaaDoor
open Go.RowKit
namespace Ex
theorem sb_put : ∀ {U : List Sbj} {i : Nat} {s s' : Sbj} {j : Nat} {x : Value}, i < U.length → j < 8 → (sbL s).set j x = sbL s' → ((U.set i s).flatMap sbL).set (i * 8 + j) x = (U.set i s').flatMap sbL
  | [], i, _, _, _, _, h, _, _ => by simp at h
  | a :: U, 0, s, s', j, x, _, hj, hs => by
    simp only [List.set_cons_zero, List.flatMap_cons, Nat.zero_mul, Nat.zero_add]
    rw [List.set_append_left _ _ (by rw [sbL_len]; exact hj), hs]
  | a :: U, i + 1, s, s', j, x, h, hj, hs => by
    simp only [List.set_cons_succ, List.flatMap_cons]
    rw [List.set_append_right _ _ (by rw [sbL_len]; omega), sbL_len, show (i + 1) * 8 + j - 8 = i * 8 + j by omega, sb_put (by simpa using h) hj hs]
theorem sb_get {U : List Sbj} {i : Nat} {s : Sbj} (h : i < U.length) (j : Nat) {x : Value} (hx : (sbL s)[j]? = some x) : ((U.set i s).flatMap sbL)[i * 8 + j]? = some x :=
  flat_get (f := sbL) (sz := 8) (fun _ => rfl) _ i s (by simp [h]) j x hx
theorem grown_set {w0 w : World} {g : Nat} (h : w0.grownBy w (some g)) (i : Nat) (x : Value) : w0.grownBy (w.setCell ⟨g, i, none⟩ x) (some g) :=
  ⟨h.os, h.tape, h.output, by simpa [World.setCell] using h.size, fun k hk hne => by
    rw [← h.block k hk hne]
    simp only [World.setCell, Array.getElem?_modify]
    rw [if_neg (fun e => hne (by rw [e]))]⟩
theorem grown_trans {w0 w1 w2 : World} {r : Option Nat} (h : w0.grownBy w1 r) (k : w1.grownBy w2 r) : w0.grownBy w2 r :=
  ⟨k.os.trans h.os, k.tape.trans h.tape, k.output.trans h.output, Nat.le_trans h.size k.size, fun i hi hne => (k.block i (Nat.lt_of_lt_of_le hi h.size) hne).trans (h.block i hi hne)⟩
theorem grown_drew {w0 w : World} {r : Option Nat} (h : w0.grownBy w r) : w0.grownBy w.drew r := ⟨h.os, h.tape, h.output, h.size, h.block⟩
theorem grown_below {w0 w w' : World} {r : Option Nat} (h : w0.grownBy w r) (hb : Below w.heap.size w w') : w0.grownBy w' r :=
  ⟨hb.os.trans h.os, hb.tape.trans h.tape, hb.output.trans h.output, Nat.le_trans h.size hb.size, fun k hk hne => (hb.block k (Nat.lt_of_lt_of_le hk h.size)).trans (h.block k hk hne)⟩
/-- a row of subjects of the call's own, one of which is s -/
abbrev SR (w : World) (base g c n : Nat) (U : List Sbj) : Prop := w.ownsRow base 36 8 (.slice (some ⟨g, 0, none⟩) n c) n (U.flatMap sbL)
theorem SR.cells {w : World} {base g c n i : Nat} {U : List Sbj} {s : Sbj} (h : SR w base g c n (U.set i s)) (hi : i < U.length) :
    (w.cell? ⟨g, i * 8, none⟩ = some (.string s.key) ∧ w.cell? ⟨g, i * 8 + 1, none⟩ = some (.int .i64 s.time) ∧ w.cell? ⟨g, i * 8 + 3, none⟩ = some (.int .i64 s.count) ∧ w.cell? ⟨g, i * 8 + 4, none⟩ = some (.int .i64 s.sum) ∧ w.cell? ⟨g, i * 8 + 5, none⟩ = some (.int .i64 s.early) ∧ w.cell? ⟨g, i * 8 + 6, none⟩ = some (.int .i64 s.earlySum)) ∧
    (w.frozen? ⟨g, i * 8 + 3, none⟩ = false ∧ w.frozen? ⟨g, i * 8 + 4, none⟩ = false ∧ w.frozen? ⟨g, i * 8 + 5, none⟩ = false ∧ w.frozen? ⟨g, i * 8 + 6, none⟩ = false) ∧ w.cell? ⟨g, i * 8 + 7, none⟩ = some (.bool s.closed) ∧ w.frozen? ⟨g, i * 8 + 7, none⟩ = false :=
  ⟨⟨(own_cell h (sb_get hi 0 rfl)).1, (own_cell h (sb_get hi 1 rfl)).1, (own_cell h (sb_get hi 3 rfl)).1, (own_cell h (sb_get hi 4 rfl)).1, (own_cell h (sb_get hi 5 rfl)).1, (own_cell h (sb_get hi 6 rfl)).1⟩,
    ⟨(own_cell h (sb_get hi 3 rfl)).2, (own_cell h (sb_get hi 4 rfl)).2, (own_cell h (sb_get hi 5 rfl)).2, (own_cell h (sb_get hi 6 rfl)).2⟩, (own_cell h (sb_get hi 7 rfl)).1, (own_cell h (sb_get hi 7 rfl)).2⟩
theorem SR.put {w : World} {base g c n i : Nat} {U : List Sbj} {s s' : Sbj} (h : SR w base g c n (U.set i s)) (hi : i < U.length) (j : Nat) (x : Value) (hj : j < 8) (hs : (sbL s).set j x = sbL s') : SR (w.setCell ⟨g, i * 8 + j, none⟩ x) base g c n (U.set i s') := by
  have h1 := own_set h (i := i * 8 + j) (by
    have h9 := (List.getElem?_eq_some_iff.1 (sb_get (U := U) (s := s) hi j (List.getElem?_eq_getElem (show j < (sbL s).length by rw [sbL_len]; exact hj)))).1
    exact h9) x
  rw [sb_put hi hj hs] at h1
  exact h1
/-! ### what Subjects and Returned answer -/
def subF (l : List Ev) (L : List ByteArray) (x name : ByteArray) (len bf : Int) : Int :=
  if checkL l ≠ 0 then checkL l else if checkSh L ≠ 0 then checkSh L else if nameB x.data.toList = false ∨ nameB name.data.toList = false then 5 else
  if withinB len 1 100000000 = false ∨ withinB bf 0 100000000 = false then 1 else 0
def SubPost (l : List Ev) (L : List ByteArray) (x name : ByteArray) (len bf : Int) (w : World) (e : Ending) (w' : World) : Prop :=
  ∃ (R : List Sbj) (a : Option Addr) (c : Nat), e = .returned (.tuple #[.slice a R.length c, .int .i64 (subF l L x name len bf)]) ∧ Sl w' (.slice a R.length c) R.length (R.flatMap sbL) ∧
    (if subF l L x name len bf = 0 then ∃ (o : List Sbj) (ks : List ByteArray), ExpR (expX x l).1 (expX x l).2 o ks ∧ R = o.map (subS len bf name (knownR l L) l) else R = []) ∧ Below w.heap.size w w'
theorem sub_bad {l : List Ev} {L : List ByteArray} {x name : ByteArray} {len bf : Int} {w w' : World} {f : Int} (hf : subF l L x name len bf = f) (h0 : f ≠ 0) (hb : Below w.heap.size w w') : SubPost l L x name len bf w (.returned (.tuple #[.slice none 0 0, .int .i64 f])) w' :=
  ⟨[], none, 0, by rw [hf]; rfl, Sl.nil _, by rw [if_neg (by rw [hf]; exact h0)], hb⟩
/-- some done, some not -/
def mapTo (f : Sbj → Sbj) (o : List Sbj) (k : Nat) : List Sbj := (o.take k).map f ++ o.drop k
theorem mapTo_len (f : Sbj → Sbj) (o : List Sbj) (k : Nat) : (mapTo f o k).length = o.length := by
  unfold mapTo
  rw [List.length_append, List.length_map, ← List.length_append, List.take_append_drop]
theorem mapTo_get {f : Sbj → Sbj} {o : List Sbj} {k : Nat} {s : Sbj} (h : o[k]? = some s) : (mapTo f o k)[k]? = some s := by
  obtain ⟨hk, rfl⟩ := List.getElem?_eq_some_iff.1 h
  unfold mapTo
  rw [List.getElem?_append_right (by rw [List.length_map, List.length_take]; omega), List.length_map, List.length_take, Nat.min_eq_left (by omega), Nat.sub_self, List.getElem?_drop, Nat.add_zero]
  exact h
theorem mapTo_same {f : Sbj → Sbj} {o : List Sbj} {k : Nat} {s : Sbj} (h : o[k]? = some s) : (mapTo f o k).set k s = mapTo f o k := by
  apply List.ext_getElem?
  intro q
  rw [List.getElem?_set]
  by_cases e : k = q
  · subst e
    rw [if_pos rfl, if_pos (by rw [mapTo_len]; exact (List.getElem?_eq_some_iff.1 h).1), mapTo_get h]
  · rw [if_neg e]
theorem mapTo_step {f : Sbj → Sbj} {o : List Sbj} {k : Nat} {s : Sbj} (h : o[k]? = some s) : (mapTo f o k).set k (f s) = mapTo f o (k + 1) := by
  obtain ⟨hk, rfl⟩ := List.getElem?_eq_some_iff.1 h
  unfold mapTo
  rw [List.set_append_right _ _ (by rw [List.length_map, List.length_take]; omega), List.length_map, List.length_take, Nat.min_eq_left (by omega), Nat.sub_self, List.drop_eq_getElem_cons hk, List.set_cons_zero, List.take_succ_eq_append_getElem hk, List.map_append, List.append_assoc]
  rfl
theorem mapTo_all {f : Sbj → Sbj} {o : List Sbj} {k : Nat} (h : o.length ≤ k) : mapTo f o k = o.map f := by
  unfold mapTo; rw [List.take_of_length_le h, List.drop_eq_nil_of_le h, List.append_nil]
theorem mapTo_zero (f : Sbj → Sbj) (o : List Sbj) : mapTo f o 0 = o := by simp [mapTo]
theorem checkE_n {e : Ev} (h : checkE e = 0) (hk : e.kind = 2) : -1000000000000 ≤ e.n ∧ e.n ≤ 1000000000000 := by
  unfold checkE at h
  by_cases h1 : nameB e.shard.data.toList = false
  · rw [if_pos h1] at h; cases h
  rw [if_neg h1] at h
  by_cases h2 : withinB e.number 1 1000000000000 = false
  · rw [if_pos h2] at h; cases h
  rw [if_neg h2] at h
  by_cases h3 : withinB e.kind 1 3 = false
  · rw [if_pos h3] at h; cases h
  rw [if_neg h3] at h
  by_cases h4 : withinB e.time 0 4000000000 = false
  · rw [if_pos h4] at h; cases h
  rw [if_neg h4, if_neg (by omega)] at h
  by_cases h5 : keyB e.key.data.toList = false
  · rw [if_pos h5] at h; cases h
  rw [if_neg h5] at h
  by_cases h6 : nameB e.name.data.toList = false
  · rw [if_pos h6] at h; cases h
  rw [if_neg h6, if_neg (by omega)] at h
  by_cases h7 : e.arm ≠ 0
  · rw [if_pos h7] at h; cases h
  rw [if_neg h7] at h
  by_cases h8 : withinB e.n (-1000000000000) 1000000000000 = false
  · rw [if_pos h8] at h; cases h
  · have : withinB e.n (-1000000000000) 1000000000000 = true := by simpa using h8
    unfold withinB at this
    exact of_decide_eq_true this
theorem outs_ok {l : List Ev} (h : checkL l = 0) {name key : ByteArray} : ∀ e ∈ outsK name l key, (0 ≤ e.time ∧ e.time ≤ 4000000000) ∧ -1000000000000 ≤ e.n ∧ e.n ≤ 1000000000000 := by
  intro e he
  obtain ⟨h1, h2, _⟩ := outsK_mem he
  have h3 := checkL_each h e h1
  exact ⟨checkE_time h3, checkE_n h3 h2⟩
theorem own_base' {w : World} {base B e size n : Nat} {v : Value} {xs : List Value} (h : w.ownsRow base e size v n xs) (hB : B ≤ base) : w.ownsRow B e size v n xs := by
  obtain ⟨h1, ⟨rfl, h2⟩ | ⟨g, cap, cur, rfl, hb, hg, hn, hm, hs, ht⟩⟩ := h
  · exact ⟨h1, .inl ⟨rfl, h2⟩⟩
  · exact ⟨h1, .inr ⟨g, cap, cur, rfl, Nat.le_trans hB hb, hg, hn, hm, hs, ht⟩⟩
theorem expR_from' {x : ByteArray} {l : List Ev} {o : List Sbj} {ks : List ByteArray} (h : ExpR (expX x l).1 (expX x l).2 o ks) : ∀ s ∈ o, ∃ e ∈ l, s.time = e.time ∧ s.arm = e.arm := by
  intro s hs
  obtain ⟨p, hp, _, rfl⟩ := (h.2.1 s).1 hs
  obtain ⟨_, h2, h3⟩ := (first_ok x l).2 p hp
  exact ⟨p.2, h2, rfl, rfl⟩
end Ex
end Go.Proofs.YtacchooggifnhaaDoor
