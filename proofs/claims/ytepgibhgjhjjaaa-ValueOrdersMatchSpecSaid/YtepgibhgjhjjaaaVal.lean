/- Values: how they lie in memory, and their order. -/
import Derived.Test.YtepgibhgjhjjaaaCmp
namespace Go.Proofs.Ytepgibhgjhjjaaa
open Go.RowKit
mutual
inductive V where
  | mk (kind n : Int) (s : ByteArray) (items : List V) (fields : List F)
inductive F where
  | mk (name : ByteArray) (v : V)
end
def i64ok (n : Int) : Prop := -9223372036854775808 ≤ n ∧ n ≤ 9223372036854775807
mutual
/-- five cells read as a value -/
def RepV (w : World) : V → List Value → Prop
  | .mk k n s is fs, cs => ∃ vi vf ics fcs, cs = [.int .i64 k, .int .i64 n, .string s, vi, vf] ∧ i64ok k ∧ i64ok n ∧ s.size ≤ maxLen ∧ Sl w vi is.length ics ∧ RepL w is ics ∧ Sl w vf fs.length fcs ∧ RepFs w fs fcs
def RepL (w : World) : List V → List Value → Prop
  | [], cs => cs = []
  | x :: xs, cs => ∃ c r, cs = c ++ r ∧ RepV w x c ∧ RepL w xs r
/-- six cells read as a field -/
def RepF (w : World) : F → List Value → Prop
  | .mk a x, cs => ∃ c, cs = .string a :: c ∧ a.size ≤ maxLen ∧ RepV w x c
def RepFs (w : World) : List F → List Value → Prop
  | [], cs => cs = []
  | x :: xs, cs => ∃ c r, cs = c ++ r ∧ RepF w x c ∧ RepFs w xs r
end
mutual
theorem RepV.ext {w w' : World} (hb : Below w.heap.size w w') : ∀ {x : V} {cs : List Value}, RepV w x cs → RepV w' x cs
  | .mk k n s is fs, cs, h => by
    simp only [RepV] at h ⊢
    obtain ⟨vi, vf, ics, fcs, h0, h1, h2, h3, h4, h5, h6, h7⟩ := h
    exact ⟨vi, vf, ics, fcs, h0, h1, h2, h3, h4.ext hb, RepL.ext hb h5, h6.ext hb, RepFs.ext hb h7⟩
theorem RepL.ext {w w' : World} (hb : Below w.heap.size w w') : ∀ {x : List V} {cs : List Value}, RepL w x cs → RepL w' x cs
  | [], cs, h => by simpa only [RepL] using h
  | x :: xs, cs, h => by
    simp only [RepL] at h ⊢
    obtain ⟨c, r, h0, h1, h2⟩ := h
    exact ⟨c, r, h0, RepV.ext hb h1, RepL.ext hb h2⟩
theorem RepF.ext {w w' : World} (hb : Below w.heap.size w w') : ∀ {x : F} {cs : List Value}, RepF w x cs → RepF w' x cs
  | .mk a x, cs, h => by
    simp only [RepF] at h ⊢
    obtain ⟨c, h0, h1, h2⟩ := h
    exact ⟨c, h0, h1, RepV.ext hb h2⟩
theorem RepFs.ext {w w' : World} (hb : Below w.heap.size w w') : ∀ {x : List F} {cs : List Value}, RepFs w x cs → RepFs w' x cs
  | [], cs, h => by simpa only [RepFs] using h
  | x :: xs, cs, h => by
    simp only [RepFs] at h ⊢
    obtain ⟨c, r, h0, h1, h2⟩ := h
    exact ⟨c, r, h0, RepF.ext hb h1, RepFs.ext hb h2⟩
end
theorem RepV.len {w : World} {x : V} {cs : List Value} (h : RepV w x cs) : cs.length = 5 := by
  cases x; simp only [RepV] at h; obtain ⟨_, _, _, _, rfl, _⟩ := h; rfl
theorem RepF.len {w : World} {x : F} {cs : List Value} (h : RepF w x cs) : cs.length = 6 := by
  cases x; simp only [RepF] at h; obtain ⟨_, rfl, _, h⟩ := h; simp [h.len]
theorem RepL.get {w : World} : ∀ {l : List V} {cs : List Value} {i : Nat} {x : V}, RepL w l cs → l[i]? = some x → ∃ c, RepV w x c ∧ ∀ j u, c[j]? = some u → cs[i * 5 + j]? = some u
  | [], _, _, _, _, hx => by simp at hx
  | y :: l, cs, 0, x, h, hx => by
    simp only [RepL] at h
    obtain ⟨c, r, rfl, h1, h2⟩ := h
    obtain rfl : y = x := by simpa using hx
    refine ⟨c, h1, fun j u hu => ?_⟩
    rw [Nat.zero_mul, Nat.zero_add, List.getElem?_append_left (List.getElem?_eq_some_iff.1 hu).1]; exact hu
  | y :: l, cs, i + 1, x, h, hx => by
    simp only [RepL] at h
    obtain ⟨c, r, rfl, h1, h2⟩ := h
    obtain ⟨c', h3, h4⟩ := RepL.get h2 (by simpa using hx)
    refine ⟨c', h3, fun j u hu => ?_⟩
    have hl := h1.len
    rw [List.getElem?_append_right (by omega), ← h4 j u hu]
    congr 1; omega
theorem RepFs.get {w : World} : ∀ {l : List F} {cs : List Value} {i : Nat} {x : F}, RepFs w l cs → l[i]? = some x → ∃ c, RepF w x c ∧ ∀ j u, c[j]? = some u → cs[i * 6 + j]? = some u
  | [], _, _, _, _, hx => by simp at hx
  | y :: l, cs, 0, x, h, hx => by
    simp only [RepFs] at h
    obtain ⟨c, r, rfl, h1, h2⟩ := h
    obtain rfl : y = x := by simpa using hx
    refine ⟨c, h1, fun j u hu => ?_⟩
    rw [Nat.zero_mul, Nat.zero_add, List.getElem?_append_left (List.getElem?_eq_some_iff.1 hu).1]; exact hu
  | y :: l, cs, i + 1, x, h, hx => by
    simp only [RepFs] at h
    obtain ⟨c, r, rfl, h1, h2⟩ := h
    obtain ⟨c', h3, h4⟩ := RepFs.get h2 (by simpa using hx)
    refine ⟨c', h3, fun j u hu => ?_⟩
    have hl := h1.len
    rw [List.getElem?_append_right (by omega), ← h4 j u hu]
    congr 1; omega

mutual
def cmpV : V → V → Int
  | .mk k n s is fs, .mk k' n' s' is' fs' =>
    if k ≠ k' then cmpI k k' else if k = 1 ∨ k = 2 then cmpI n n' else if k = 3 then cmpS s s' else if k = 4 then cmpL is is' else if k = 5 then cmpFs fs fs' else 0
def cmpL : List V → List V → Int
  | [], [] => 0
  | [], _ :: _ => -1
  | _ :: _, [] => 1
  | x :: xs, y :: ys => orI (cmpV x y) (cmpL xs ys)
def cmpF : F → F → Int
  | .mk a x, .mk b y => orI (cmpS a b) (cmpV x y)
def cmpFs : List F → List F → Int
  | [], [] => 0
  | [], _ :: _ => -1
  | _ :: _, [] => 1
  | x :: xs, y :: ys => orI (cmpF x y) (cmpFs xs ys)
end
theorem orI_neg (a b : Int) : orI (-a) (-b) = - orI a b := by
  unfold orI; by_cases h : a = 0
  · simp [h]
  · have : -a ≠ 0 := by omega
    simp [h]
theorem orI_tri {a b : Int} (h : a = -1 ∨ a = 0 ∨ a = 1) (k : b = -1 ∨ b = 0 ∨ b = 1) : orI a b = -1 ∨ orI a b = 0 ∨ orI a b = 1 := by
  unfold orI; split <;> assumption
/-- what a first and a second comparison say of a third -/
def T3 (a b c : Int) : Prop := a ≤ 0 → b ≤ 0 → c ≤ 0 ∧ (c = 0 → a = 0 ∧ b = 0)
theorem T3.or {a b c a' b' c' : Int} (h : T3 a b c) (k : T3 a' b' c') : T3 (orI a a') (orI b b') (orI c c') := by
  unfold T3 at h k
  unfold T3 orI
  by_cases ea : a = 0 <;> by_cases eb : b = 0 <;> by_cases ec : c = 0
  all_goals (first | rw [if_pos ea] | rw [if_neg ea])
  all_goals (first | rw [if_pos eb] | rw [if_neg eb])
  all_goals (first | rw [if_pos ec] | rw [if_neg ec])
  all_goals (intro h1 h2; refine ⟨?_, fun e => ?_⟩ <;> omega)
theorem T3.of {α : Type} {c : α → α → Int} (anti : ∀ x y, c y x = - c x y) (tr : ∀ x y z, c x y ≤ 0 → c y z ≤ 0 → c x z ≤ 0) (x y z : α) : T3 (c x y) (c y z) (c x z) := by
  intro h1 h2
  have h3 := tr x y z h1 h2
  refine ⟨h3, fun e => ?_⟩
  have a1 := anti x z
  have a2 := anti x y
  have a3 := anti y z
  have t1 := tr y z x h2 (by omega)
  have t2 := tr z x y (by omega) h1
  omega
theorem cmpI_T3 (x y z : Int) : T3 (cmpI x y) (cmpI y z) (cmpI x z) := T3.of cmpI_anti (fun _ _ _ => cmpI_trans) x y z
theorem cmpS_T3 (x y z : ByteArray) : T3 (cmpS x y) (cmpS y z) (cmpS x z) := T3.of cmpS_anti (fun _ _ _ => cmpS_trans) x y z

mutual
theorem cmpV_self : ∀ x : V, cmpV x x = 0
  | .mk k n s is fs => by
    simp only [cmpV, cmpI_self, cmpS_self, cmpL_self is, cmpFs_self fs]; simp
theorem cmpL_self : ∀ x : List V, cmpL x x = 0
  | [] => by simp [cmpL]
  | x :: xs => by simp [cmpL, cmpV_self x, cmpL_self xs, orI]
theorem cmpF_self : ∀ x : F, cmpF x x = 0
  | .mk a x => by simp [cmpF, cmpS_self, cmpV_self x, orI]
theorem cmpFs_self : ∀ x : List F, cmpFs x x = 0
  | [] => by simp [cmpFs]
  | x :: xs => by simp [cmpFs, cmpF_self x, cmpFs_self xs, orI]
end
mutual
theorem cmpV_anti : ∀ x y : V, cmpV y x = - cmpV x y
  | .mk k n s is fs, .mk k' n' s' is' fs' => by
    simp only [cmpV]
    by_cases hk : k = k'
    · subst hk
      rw [cmpI_anti n n', cmpS_anti s s', cmpL_anti is is', cmpFs_anti fs fs']
      (repeat' split) <;> first | rfl | simp_all
    · have : k' ≠ k := fun e => hk e.symm
      simp [hk, this, cmpI_anti k k']
theorem cmpL_anti : ∀ x y : List V, cmpL y x = - cmpL x y
  | [], [] => by simp [cmpL]
  | [], _ :: _ => by simp [cmpL]
  | _ :: _, [] => by simp [cmpL]
  | x :: xs, y :: ys => by simp only [cmpL]; rw [cmpV_anti x y, cmpL_anti xs ys, orI_neg]
theorem cmpF_anti : ∀ x y : F, cmpF y x = - cmpF x y
  | .mk a x, .mk b y => by simp only [cmpF]; rw [cmpS_anti a b, cmpV_anti x y, orI_neg]
theorem cmpFs_anti : ∀ x y : List F, cmpFs y x = - cmpFs x y
  | [], [] => by simp [cmpFs]
  | [], _ :: _ => by simp [cmpFs]
  | _ :: _, [] => by simp [cmpFs]
  | x :: xs, y :: ys => by simp only [cmpFs]; rw [cmpF_anti x y, cmpFs_anti xs ys, orI_neg]
end
mutual
theorem cmpV_tri : ∀ x y : V, cmpV x y = -1 ∨ cmpV x y = 0 ∨ cmpV x y = 1
  | .mk k n s is fs, .mk k' n' s' is' fs' => by
    have h1 := cmpI_tri k k'
    have h2 := cmpI_tri n n'
    have h3 := cmpS_tri s s'
    have h4 := cmpL_tri is is'
    have h5 := cmpFs_tri fs fs'
    simp only [cmpV]
    (repeat' split) <;> first | assumption | simp
theorem cmpL_tri : ∀ x y : List V, cmpL x y = -1 ∨ cmpL x y = 0 ∨ cmpL x y = 1
  | [], [] => by simp [cmpL]
  | [], _ :: _ => by simp [cmpL]
  | _ :: _, [] => by simp [cmpL]
  | x :: xs, y :: ys => by simp only [cmpL]; exact orI_tri (cmpV_tri x y) (cmpL_tri xs ys)
theorem cmpF_tri : ∀ x y : F, cmpF x y = -1 ∨ cmpF x y = 0 ∨ cmpF x y = 1
  | .mk a x, .mk b y => by simp only [cmpF]; exact orI_tri (cmpS_tri a b) (cmpV_tri x y)
theorem cmpFs_tri : ∀ x y : List F, cmpFs x y = -1 ∨ cmpFs x y = 0 ∨ cmpFs x y = 1
  | [], [] => by simp [cmpFs]
  | [], _ :: _ => by simp [cmpFs]
  | _ :: _, [] => by simp [cmpFs]
  | x :: xs, y :: ys => by simp only [cmpFs]; exact orI_tri (cmpF_tri x y) (cmpFs_tri xs ys)
end
theorem cmpV_or (k n : Int) (s : ByteArray) (is : List V) (fs : List F) (k' n' : Int) (s' : ByteArray) (is' : List V) (fs' : List F) :
    cmpV (.mk k n s is fs) (.mk k' n' s' is' fs') = orI (cmpI k k') (if k = 1 ∨ k = 2 then cmpI n n' else if k = 3 then cmpS s s' else if k = 4 then cmpL is is' else if k = 5 then cmpFs fs fs' else 0) := by
  simp only [cmpV, orI]
  by_cases hk : k = k'
  · subst hk; simp [cmpI_self]
  · have : cmpI k k' ≠ 0 := fun e => hk (cmpI_zero e)
    simp [hk, this]
theorem T3.zero : T3 0 0 0 := by unfold T3; omega
mutual
theorem cmpV_T3 : ∀ x y z : V, T3 (cmpV x y) (cmpV y z) (cmpV x z)
  | .mk k n s is fs, .mk k' n' s' is' fs', .mk k'' n'' s'' is'' fs'' => by
    by_cases hk : k = k'
    · subst hk
      rw [cmpV_or, cmpV_or, cmpV_or]
      refine T3.or (cmpI_T3 _ _ _) ?_
      by_cases h1 : k = 1 ∨ k = 2
      · simp only [h1, if_true]; exact cmpI_T3 _ _ _
      · by_cases h3 : k = 3
        · simp only [if_neg h1, if_pos h3]; exact cmpS_T3 _ _ _
        · by_cases h4 : k = 4
          · simp only [if_neg h1, if_neg h3, if_pos h4]; exact cmpL_T3 is is' is''
          · by_cases h5 : k = 5
            · simp only [if_neg h1, if_neg h3, if_neg h4, if_pos h5]; exact cmpFs_T3 fs fs' fs''
            · simp only [h1, h3, h4, h5, if_false]; exact T3.zero
    · have h0 := cmpI_T3 k k' k''
      have h1 : cmpI k k' ≠ 0 := fun e => hk (cmpI_zero e)
      intro a b
      rw [cmpV_or] at a b
      rw [cmpV_or, cmpV_or, cmpV_or]
      have a' : cmpI k k' ≤ 0 := by unfold orI at a; rw [if_neg h1] at a; exact a
      have b' : cmpI k' k'' ≤ 0 := by unfold orI at b; split at b <;> omega
      have c := h0 a' b'
      have c1 : cmpI k k'' ≠ 0 := fun e => h1 (c.2 e).1
      unfold orI
      rw [if_neg c1]
      exact ⟨c.1, fun e => (c1 e).elim⟩
theorem cmpL_T3 : ∀ x y z : List V, T3 (cmpL x y) (cmpL y z) (cmpL x z)
  | [], [], [] => by simp [cmpL, T3]
  | [], [], _ :: _ => by simp [cmpL, T3]
  | [], _ :: _, [] => by simp [cmpL, T3]
  | [], _ :: _, _ :: _ => by simp [cmpL, T3]
  | _ :: _, [], _ => by simp [cmpL, T3]
  | _ :: _, _ :: _, [] => by simp [cmpL, T3]
  | x :: xs, y :: ys, z :: zs => by simp only [cmpL]; exact T3.or (cmpV_T3 x y z) (cmpL_T3 xs ys zs)
theorem cmpF_T3 : ∀ x y z : F, T3 (cmpF x y) (cmpF y z) (cmpF x z)
  | .mk a x, .mk b y, .mk c z => by simp only [cmpF]; exact T3.or (cmpS_T3 a b c) (cmpV_T3 x y z)
theorem cmpFs_T3 : ∀ x y z : List F, T3 (cmpFs x y) (cmpFs y z) (cmpFs x z)
  | [], [], [] => by simp [cmpFs, T3]
  | [], [], _ :: _ => by simp [cmpFs, T3]
  | [], _ :: _, [] => by simp [cmpFs, T3]
  | [], _ :: _, _ :: _ => by simp [cmpFs, T3]
  | _ :: _, [], _ => by simp [cmpFs, T3]
  | _ :: _, _ :: _, [] => by simp [cmpFs, T3]
  | x :: xs, y :: ys, z :: zs => by simp only [cmpFs]; exact T3.or (cmpF_T3 x y z) (cmpFs_T3 xs ys zs)
end
theorem cmpV_trans {x y z : V} (h : cmpV x y ≤ 0) (k : cmpV y z ≤ 0) : cmpV x z ≤ 0 := (cmpV_T3 x y z h k).1
end Go.Proofs.Ytepgibhgjhjjaaa
