/- The faults of a list that is in order. -/
import Derived.Test.YtbbfdkjamjmbmaaDoorJoin
namespace Go.Proofs.YtbbfdkjamjmbmaaDoor
theorem ite_eight (b : Bool) (x : Int) (h : (if b = true then (8 : Int) else x) = 0) : x = 0 := by cases b <;> simp_all
theorem scan_zero : ∀ (p : Option Ev) (l : List Ev), scanFrom p l = 0 → ∀ e ∈ l, checkE e = 0
  | _, [], _, e, he => by cases he
  | p, x :: l, h, e, he => by
    simp only [scanFrom] at h
    by_cases hx : checkE x = 0
    · rw [if_neg (by simp [hx])] at h
      have h' := ite_eight _ _ h
      rcases List.mem_cons.1 he with rfl | he
      · exact hx
      · exact scan_zero _ l h' e he
    · rw [if_pos hx] at h; omega
theorem checkL_all {l : List Ev} (h : checkL l = 0) : ∀ x ∈ l, checkE x = 0 := by
  unfold checkL at h
  by_cases h1 : 20000 < l.length
  · rw [if_pos h1] at h; cases h
  · rw [if_neg h1] at h
    by_cases h2 : scanFrom none l = 0
    · exact scan_zero none l h2
    · rw [if_pos h2] at h; exact absurd h h2
theorem scan_asc : ∀ (p : Option Ev) (l : List Ev), (∀ x ∈ l, checkE x = 0) → Asc l → (∀ q, p = some q → ∀ x ∈ l, ordE q x < 0) → scanFrom p l = 0
  | _, [], _, _, _ => rfl
  | p, e :: r, hc, ha, hp => by
    obtain ⟨a1, a2⟩ := List.pairwise_cons.1 ha
    unfold scanFrom
    rw [if_neg (by simp [hc e (by simp)]), if_neg]
    · exact scan_asc (some e) r (fun x hx => hc x (by simp [hx])) a2 (fun q hq x hx => by cases hq; exact a1 x hx)
    · cases p with
      | none => simp
      | some q => have := hp q rfl e (by simp); simp; omega
theorem checkL_asc {M : List Ev} (ha : Asc M) (hc : ∀ x ∈ M, checkE x = 0) : checkL M = if 20000 < M.length ∨ 50 < (shardsOf M).length then 2 else 0 := by
  unfold checkL
  have h0 := scan_asc none M hc ha (fun q hq => by cases hq)
  by_cases h1 : 20000 < M.length
  · rw [if_pos h1, if_pos (.inl h1)]
  · rw [if_neg h1, if_neg (by simp [h0])]
    by_cases h2 : 50 < (shardsOf M).length
    · rw [if_pos h2, if_pos (.inr h2)]
    · rw [if_neg h2, if_neg (by omega)]
end Go.Proofs.YtbbfdkjamjmbmaaDoor
