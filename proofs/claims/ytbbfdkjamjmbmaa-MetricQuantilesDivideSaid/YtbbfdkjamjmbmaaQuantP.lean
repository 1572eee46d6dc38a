/- Plain: how many of a list are not greater than a quantile, and how many are less. -/
import Derived.Test.YtbbfdkjamjmbmaaQuant
namespace Go.Proofs.Ytbbfdkjamjmbmaa
open Go.RowKit
def nLess (n : Int) (l : List Int) : Nat := l.countP fun x => decide (x < n)
def nMost (n : Int) (l : List Int) : Nat := l.countP fun x => decide (x ≤ n)
theorem sortI_perm (l : List Int) : (sortI l).Perm l := List.mergeSort_perm _ _
theorem sortI_pw (l : List Int) : (sortI l).Pairwise fun x y => x ≤ y := by
  have := List.pairwise_mergeSort (le := fun x y : Int => decide (x ≤ y)) (by intro a b c h1 h2; simp at *; omega) (by intro a b; simp; omega) l
  exact this.imp (by intro a b h; simpa using h)
theorem count_most {s : List Int} (h : s.Pairwise fun x y => x ≤ y) {r : Nat} (hr : r < s.length) : r + 1 ≤ nMost s[r] s := by
  unfold nMost
  conv => rhs; arg 2; rw [← List.take_append_drop (r + 1) s]
  rw [List.countP_append]
  have h1 : (s.take (r + 1)).countP (fun x => decide (x ≤ s[r])) = (s.take (r + 1)).length := by
    rw [List.countP_eq_length]
    intro a ha
    obtain ⟨i, hi, rfl⟩ := List.getElem_of_mem ha
    simp only [List.length_take] at hi
    rw [List.getElem_take]
    apply decide_eq_true
    by_cases e : i = r
    · subst e; exact Int.le_refl _
    · exact List.pairwise_iff_getElem.1 h i r (by omega) hr (by omega)
  rw [h1, List.length_take]
  omega
theorem count_less {s : List Int} (h : s.Pairwise fun x y => x ≤ y) {r : Nat} (hr : r < s.length) : nLess s[r] s ≤ r := by
  unfold nLess
  conv => lhs; arg 2; rw [← List.take_append_drop r s]
  rw [List.countP_append]
  have h1 : (s.drop r).countP (fun x => decide (x < s[r])) = 0 := by
    rw [List.countP_eq_zero]
    intro a ha
    obtain ⟨i, hi, rfl⟩ := List.getElem_of_mem ha
    simp only [List.length_drop] at hi
    rw [List.getElem_drop]
    simp only [decide_eq_true_eq, Int.not_lt]
    by_cases e : i = 0
    · subst e; exact Int.le_refl _
    · exact List.pairwise_iff_getElem.1 h r (r + i) hr (by omega) (by omega)
  rw [h1]
  have := List.countP_le_length (p := fun x => decide (x < s[r])) (l := s.take r)
  rw [List.length_take] at this
  omega
theorem quant_divides (l : List Int) (m : Nat) (h0 : 0 < l.length) (h1 : 1 ≤ m) (h2 : m ≤ 1000) :
    l.length * m ≤ nMost ((sortI l).getD (rankQ (l.length * m)) 0) l * 1000 ∧ nLess ((sortI l).getD (rankQ (l.length * m)) 0) l * 1000 < l.length * m := by
  have hr : rankQ (l.length * m) < (sortI l).length := by rw [sortI_length]; exact rankQ_lt h0 h1 h2
  have e : (sortI l).getD (rankQ (l.length * m)) 0 = (sortI l)[rankQ (l.length * m)] := by simp [List.getD, List.getElem?_eq_getElem hr]
  rw [e]
  have c1 := count_most (sortI_pw l) hr
  have c2 := count_less (sortI_pw l) hr
  have e1 : nMost (sortI l)[rankQ (l.length * m)] l = nMost (sortI l)[rankQ (l.length * m)] (sortI l) := ((sortI_perm l).countP_eq _).symm
  have e2 : nLess (sortI l)[rankQ (l.length * m)] l = nLess (sortI l)[rankQ (l.length * m)] (sortI l) := ((sortI_perm l).countP_eq _).symm
  rw [e1, e2]
  have hm := Nat.mul_pos h0 h1
  unfold rankQ at *
  generalize nMost _ _ = a at *
  generalize nLess _ _ = b at *
  generalize l.length * m = p at *
  omega
theorem take_succ_int {l : List Int} {k : Nat} (h : k < l.length) : l.take (k + 1) = l.take k ++ [l[k]] := List.take_succ_eq_append_getElem h
theorem nLess_snoc (n x : Int) (l : List Int) : nLess n (l ++ [x]) = nLess n l + if x < n then 1 else 0 := by
  unfold nLess; rw [List.countP_append]; simp [List.countP_cons]
theorem nMost_snoc (n x : Int) (l : List Int) : nMost n (l ++ [x]) = nMost n l + if x ≤ n then 1 else 0 := by
  unfold nMost; rw [List.countP_append]; simp [List.countP_cons]
theorem nLess_le (n : Int) (l : List Int) : nLess n l ≤ l.length := List.countP_le_length
theorem nMost_le (n : Int) (l : List Int) : nMost n l ≤ l.length := List.countP_le_length
end Go.Proofs.Ytbbfdkjamjmbmaa
