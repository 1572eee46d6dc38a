/- The join of logs, plainly: the list in order that has the events of both, each once; and what a sorted list that was compacted is. -/
import Derived.Test.YtbbfdkjamjmbmaaDoorEvEq
import Derived.Lib.SlicesCompact
namespace Go.Proofs.YtbbfdkjamjmbmaaDoor
open Go.Sort Go.Lib
def Asc (M : List Ev) : Prop := M.Pairwise (fun a b => ordE a b < 0)
def NoClash (U : List Ev) : Prop := ∀ x ∈ U, ∀ y ∈ U, ordE x y = 0 → x = y
def Adj (P : Ev → Ev → Prop) (C : List Ev) : Prop := ∀ j x y, C[j]? = some x → C[j + 1]? = some y → P x y
theorem Adj.nil (P : Ev → Ev → Prop) : Adj P [] := fun j x y h => by simp at h
theorem Adj.snoc {P : Ev → Ev → Prop} {C : List Ev} {y : Ev} (h : Adj P C) (hl : ∀ x, C.getLast? = some x → P x y) : Adj P (C ++ [y]) := by
  intro j a b ha hb
  by_cases h1 : j + 1 < C.length
  · rw [List.getElem?_append_left (by omega)] at ha hb
    exact h j a b ha hb
  · by_cases h2 : j + 1 = C.length
    · rw [List.getElem?_append_left (by omega)] at ha
      rw [List.getElem?_append_right (by omega), h2, Nat.sub_self] at hb
      have : y = b := by simpa using hb
      subst this
      refine hl a ?_
      rw [List.getLast?_eq_getElem?, ← h2, Nat.add_sub_cancel]; exact ha
    · rw [List.getElem?_append_right (by omega)] at hb
      rw [List.getElem?_eq_none (by simp; omega)] at hb; cases hb
theorem Adj.tail {P : Ev → Ev → Prop} {x : Ev} {C : List Ev} (h : Adj P (x :: C)) : Adj P C := fun j a b ha hb => h (j + 1) a b (by simpa using ha) (by simpa using hb)
theorem asc_head {x : Ev} : ∀ {C : List Ev}, Adj (fun a b => ordE a b < 0) (x :: C) → ∀ y ∈ C, ordE x y < 0
  | [], _, _, h => by cases h
  | z :: C, h, y, hy => by
    have h1 : ordE x z < 0 := h 0 x z rfl rfl
    rcases List.mem_cons.1 hy with rfl | hy
    · exact h1
    · exact ordE_lt_trans h1 (asc_head h.tail y hy)
theorem asc_of_adj : ∀ {C : List Ev}, Adj (fun a b => ordE a b < 0) C → Asc C
  | [], _ => List.Pairwise.nil
  | _ :: _, h => List.Pairwise.cons (asc_head h) (asc_of_adj h.tail)
theorem adj_of_asc {C : List Ev} (h : Asc C) : Adj (fun a b => ordE a b < 0) C := by
  intro j x y hx hy
  obtain ⟨h1, rfl⟩ := List.getElem?_eq_some_iff.1 hx
  obtain ⟨h2, rfl⟩ := List.getElem?_eq_some_iff.1 hy
  exact List.pairwise_iff_getElem.1 h j (j + 1) h1 h2 (by omega)
theorem asc_unique : ∀ {M M' : List Ev}, Asc M → Asc M' → (∀ x, x ∈ M ↔ x ∈ M') → M = M'
  | [], [], _, _, _ => rfl
  | [], y :: M', _, _, h => by have := (h y).2 (by simp); cases this
  | x :: M, [], _, _, h => by have := (h x).1 (by simp); cases this
  | x :: M, y :: M', h1, h2, h => by
    obtain ⟨a1, a2⟩ := List.pairwise_cons.1 h1
    obtain ⟨b1, b2⟩ := List.pairwise_cons.1 h2
    have hxy : x = y := by
      rcases List.mem_cons.1 ((h x).1 (by simp)) with e | e
      · exact e
      · rcases List.mem_cons.1 ((h y).2 (by simp)) with e' | e'
        · exact e'.symm
        · have := a1 y e'; have := b1 x e; rw [ordE_anti x y] at this; omega
    subst hxy
    congr 1
    refine asc_unique a2 b2 fun z => ?_
    constructor
    · intro hz
      rcases List.mem_cons.1 ((h z).1 (List.mem_cons_of_mem _ hz)) with e | e
      · subst e; have := a1 z hz; rw [ordE_self] at this; omega
      · exact e
    · intro hz
      rcases List.mem_cons.1 ((h z).2 (List.mem_cons_of_mem _ hz)) with e | e
      · subst e; have := b1 z hz; rw [ordE_self] at this; omega
      · exact e
theorem asc_noClash {M : List Ev} (h : Asc M) : NoClash M := by
  intro x hx y hy h0
  obtain ⟨i, hi, rfl⟩ := List.getElem_of_mem hx
  obtain ⟨j, hj, rfl⟩ := List.getElem_of_mem hy
  rcases Nat.lt_trichotomy i j with h1 | h1 | h1
  · have := List.pairwise_iff_getElem.1 h i j hi hj h1; omega
  · subst h1; rfl
  · have := List.pairwise_iff_getElem.1 h j i hj hi h1; rw [ordE_anti, h0] at this; omega

/-- What a list in order becomes, compacted. -/
theorem cpt_inv (d : Array Ev) : ∀ m, m ≤ d.size → (∀ x, x ∈ compactUpTo d m ↔ ∃ j, j < m ∧ d[j]! = x) ∧ (0 < m → (compactUpTo d m).getLast? = some d[m - 1]!) ∧ Adj (fun a b => a ≠ b ∧ ∃ i j, i < j ∧ j < m ∧ d[i]! = a ∧ d[j]! = b) (compactUpTo d m)
  | 0, _ => ⟨fun x => by simp [compactUpTo], fun h => by omega, by simp only [compactUpTo, List.range_zero, List.filter_nil, List.map_nil]; exact Adj.nil _⟩
  | m + 1, hm => by
    obtain ⟨h1, h2, h3⟩ := cpt_inv d m (by omega)
    rw [compactUpTo_succ]
    have h3' : Adj (fun a b => a ≠ b ∧ ∃ i j, i < j ∧ j < m + 1 ∧ d[i]! = a ∧ d[j]! = b) (compactUpTo d m) := fun j x y hx hy => by
      obtain ⟨k1, i, k, k2, k3, k4, k5⟩ := h3 j x y hx hy
      exact ⟨k1, i, k, k2, by omega, k4, k5⟩
    by_cases hk : keeps d m = true
    · rw [if_pos hk]
      refine ⟨fun x => ?_, fun _ => by simp, h3'.snoc fun x hx => ?_⟩
      · simp only [List.mem_append, h1, List.mem_singleton]
        constructor
        · rintro (⟨j, hj, rfl⟩ | rfl)
          · exact ⟨j, by omega, rfl⟩
          · exact ⟨m, by omega, rfl⟩
        · rintro ⟨j, hj, rfl⟩
          by_cases e : j = m
          · subst e; exact .inr rfl
          · exact .inl ⟨j, by omega, rfl⟩
      · by_cases hm0 : m = 0
        · subst hm0; simp [compactUpTo] at hx
        · rw [h2 (by omega)] at hx
          obtain rfl := Option.some.inj hx
          refine ⟨fun e => ?_, m - 1, m, by omega, by omega, rfl, rfl⟩
          simp only [keeps, decide_eq_true_eq] at hk
          rcases hk with hk | hk
          · exact hm0 hk
          · exact hk e.symm
    · have hk' : keeps d m = false := by simpa using hk
      have hm0 : m ≠ 0 := fun e => by subst e; simp [keeps] at hk'
      have hd : d[m]! = d[m - 1]! := by
        simp only [keeps, decide_eq_false_iff_not] at hk'
        exact Classical.byContradiction fun h => hk' (.inr h)
      rw [if_neg hk, List.append_nil]
      refine ⟨fun x => ?_, fun _ => by rw [h2 (by omega), Nat.add_sub_cancel, hd], h3'⟩
      rw [h1]
      constructor
      · rintro ⟨j, hj, rfl⟩; exact ⟨j, by omega, rfl⟩
      · rintro ⟨j, hj, rfl⟩
        by_cases e : j = m
        · subst e; exact ⟨j - 1, by omega, hd.symm⟩
        · exact ⟨j, by omega, rfl⟩
theorem perm_mem {U : List Ev} {d' : Array Ev} (hp : PermIn 0 U.toArray.size U.toArray d') (x : Ev) : (∃ j, j < d'.size ∧ d'[j]! = x) ↔ x ∈ U := by
  obtain ⟨hs, _, hq⟩ := hp
  have e1 : (d'.extract 0 U.toArray.size).toList = d'.toList := by rw [← hs]; simp
  have e2 : (U.toArray.extract 0 U.toArray.size).toList = U := by simp
  rw [e1, e2] at hq
  rw [← hq.mem_iff]
  constructor
  · rintro ⟨j, hj, rfl⟩; rw [getElem!_pos d' j hj]; exact Array.getElem_mem_toList hj
  · intro h
    obtain ⟨j, hj, rfl⟩ := List.getElem_of_mem h
    have hj' : j < d'.size := by simpa using hj
    exact ⟨j, hj', by rw [getElem!_pos d' j hj']; simp⟩
/-- What was sorted and compacted: the events of U, in order, but for clashes. -/
theorem cpt_sorted {U : List Ev} {d' : Array Ev} (hp : PermIn 0 U.toArray.size U.toArray d') (hs : SortedIn (ltOf ordE) 0 U.toArray.size d') :
    (∀ x, x ∈ compactUpTo d' d'.size ↔ x ∈ U) ∧ Adj (fun a b => a ≠ b ∧ ordE a b ≤ 0) (compactUpTo d' d'.size) := by
  obtain ⟨h1, _, h3⟩ := cpt_inv d' d'.size (Nat.le_refl _)
  refine ⟨fun x => (h1 x).trans (perm_mem hp x), fun j x y hx hy => ?_⟩
  obtain ⟨k1, i, k, k2, k3, rfl, rfl⟩ := h3 j x y hx hy
  refine ⟨k1, ?_⟩
  have := hs i k (by omega) k2 (by rw [← hp.1]; exact k3)
  simp only [ltOf, decide_eq_false_iff_not, Int.not_lt] at this
  rw [ordE_anti] at this; omega
theorem clash_of {U C : List Ev} (hm : ∀ x, x ∈ C ↔ x ∈ U) (ha : Adj (fun a b => a ≠ b ∧ ordE a b ≤ 0) C) {j : Nat} {x y : Ev} (hx : C[j]? = some x) (hy : C[j + 1]? = some y) (h0 : ordE x y = 0) : ¬ NoClash U := by
  intro hn
  exact (ha j x y hx hy).1 (hn x ((hm x).1 (List.mem_of_getElem? hx)) y ((hm y).1 (List.mem_of_getElem? hy)) h0)
theorem asc_of {C : List Ev} (ha : Adj (fun a b => a ≠ b ∧ ordE a b ≤ 0) C) (hn : Adj (fun a b => ordE a b ≠ 0) C) : Asc C :=
  asc_of_adj fun j x y hx hy => by have := (ha j x y hx hy).2; have := hn j x y hx hy; show ordE x y < 0; omega
end Go.Proofs.YtbbfdkjamjmbmaaDoor
