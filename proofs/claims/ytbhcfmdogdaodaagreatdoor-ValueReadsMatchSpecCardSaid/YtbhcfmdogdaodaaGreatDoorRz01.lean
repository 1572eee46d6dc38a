/- Values: how they lie in memory, and their order. Plain: fields in order of their names: what reads under a name, a field laid in or taken out; what is wrong with a value. No program stands in it. Plain: how many parts a value has, and how many levels; what the reference counts. No program stands in it. Numbers as lists of words of 32 bits, the least one first: plain mathematics, no program stands in it. Decimal numerals: plain mathematics. The numeral of a number: plain mathematics. -/
import Derived.Test.YtbhcfmdogdaodaaGreatDoorRz00
import Derived.Lib.Hide
namespace Go.Proofs.YtbhcfmdogdaodaaGreatDoor
open Go.RowKit
mutual
inductive V where
  | mk (kind n : Int) (s : ByteArray) (items : List V) (fields : List F)
inductive F where
  | mk (name : ByteArray) (v : V)
end
mutual
/-- five cells read as a value -/
def RepV (w : World) : V → List Value → Prop
  | .mk k n s is fs, cs => ∃ vi vf ics fcs, cs = [.int .i64 k, .int .i64 n, .string s, vi, vf] ∧ i64ok k ∧ i64ok n ∧ s.size ≤ maxLen ∧ Sl w vi is.length ics ∧ RepL w is ics ∧ Sl w vf fs.length fcs ∧ RepFs w fs fcs
def RepL (w : World) : List V → List Value → Prop
  | [], cs => cs = []
  | x :: xs, cs => ∃ c r, cs = c ++ r ∧ RepV w x c ∧ RepL w xs r
/-- six cells read as a field -/
def RepF (w : World) : F → List Value → Prop
  | .mk a x, cs => ∃ c, cs = .string a :: c ∧ a.size ≤ maxLen ∧ RepV w x c
def RepFs (w : World) : List F → List Value → Prop
  | [], cs => cs = []
  | x :: xs, cs => ∃ c r, cs = c ++ r ∧ RepF w x c ∧ RepFs w xs r
end
mutual
theorem RepV.ext {w w' : World} (hb : Below w.heap.size w w') : ∀ {x : V} {cs : List Value}, RepV w x cs → RepV w' x cs
  | .mk k n s is fs, cs, h => by
    simp only [RepV] at h ⊢
    obtain ⟨vi, vf, ics, fcs, h0, h1, h2, h3, h4, h5, h6, h7⟩ := h
    exact ⟨vi, vf, ics, fcs, h0, h1, h2, h3, h4.ext hb, RepL.ext hb h5, h6.ext hb, RepFs.ext hb h7⟩
theorem RepL.ext {w w' : World} (hb : Below w.heap.size w w') : ∀ {x : List V} {cs : List Value}, RepL w x cs → RepL w' x cs
  | [], cs, h => by simpa only [RepL] using h
  | x :: xs, cs, h => by
    simp only [RepL] at h ⊢
    obtain ⟨c, r, h0, h1, h2⟩ := h
    exact ⟨c, r, h0, RepV.ext hb h1, RepL.ext hb h2⟩
theorem RepF.ext {w w' : World} (hb : Below w.heap.size w w') : ∀ {x : F} {cs : List Value}, RepF w x cs → RepF w' x cs
  | .mk a x, cs, h => by
    simp only [RepF] at h ⊢
    obtain ⟨c, h0, h1, h2⟩ := h
    exact ⟨c, h0, h1, RepV.ext hb h2⟩
theorem RepFs.ext {w w' : World} (hb : Below w.heap.size w w') : ∀ {x : List F} {cs : List Value}, RepFs w x cs → RepFs w' x cs
  | [], cs, h => by simpa only [RepFs] using h
  | x :: xs, cs, h => by
    simp only [RepFs] at h ⊢
    obtain ⟨c, r, h0, h1, h2⟩ := h
    exact ⟨c, r, h0, RepF.ext hb h1, RepFs.ext hb h2⟩
end
theorem RepV.len {w : World} {x : V} {cs : List Value} (h : RepV w x cs) : cs.length = 5 := by
  cases x; simp only [RepV] at h; obtain ⟨_, _, _, _, rfl, _⟩ := h; rfl
theorem RepF.len {w : World} {x : F} {cs : List Value} (h : RepF w x cs) : cs.length = 6 := by
  cases x; simp only [RepF] at h; obtain ⟨_, rfl, _, h⟩ := h; simp [h.len]
theorem RepL.get {w : World} : ∀ {l : List V} {cs : List Value} {i : Nat} {x : V}, RepL w l cs → l[i]? = some x → ∃ c, RepV w x c ∧ ∀ j u, c[j]? = some u → cs[i * 5 + j]? = some u
  | [], _, _, _, _, hx => by simp at hx
  | y :: l, cs, 0, x, h, hx => by
    simp only [RepL] at h
    obtain ⟨c, r, rfl, h1, h2⟩ := h
    obtain rfl : y = x := by simpa using hx
    refine ⟨c, h1, fun j u hu => ?_⟩
    rw [Nat.zero_mul, Nat.zero_add, List.getElem?_append_left (List.getElem?_eq_some_iff.1 hu).1]; exact hu
  | y :: l, cs, i + 1, x, h, hx => by
    simp only [RepL] at h
    obtain ⟨c, r, rfl, h1, h2⟩ := h
    obtain ⟨c', h3, h4⟩ := RepL.get h2 (by simpa using hx)
    refine ⟨c', h3, fun j u hu => ?_⟩
    have hl := h1.len
    rw [List.getElem?_append_right (by omega), ← h4 j u hu]
    congr 1; omega
theorem RepFs.get {w : World} : ∀ {l : List F} {cs : List Value} {i : Nat} {x : F}, RepFs w l cs → l[i]? = some x → ∃ c, RepF w x c ∧ ∀ j u, c[j]? = some u → cs[i * 6 + j]? = some u
  | [], _, _, _, _, hx => by simp at hx
  | y :: l, cs, 0, x, h, hx => by
    simp only [RepFs] at h
    obtain ⟨c, r, rfl, h1, h2⟩ := h
    obtain rfl : y = x := by simpa using hx
    refine ⟨c, h1, fun j u hu => ?_⟩
    rw [Nat.zero_mul, Nat.zero_add, List.getElem?_append_left (List.getElem?_eq_some_iff.1 hu).1]; exact hu
  | y :: l, cs, i + 1, x, h, hx => by
    simp only [RepFs] at h
    obtain ⟨c, r, rfl, h1, h2⟩ := h
    obtain ⟨c', h3, h4⟩ := RepFs.get h2 (by simpa using hx)
    refine ⟨c', h3, fun j u hu => ?_⟩
    have hl := h1.len
    rw [List.getElem?_append_right (by omega), ← h4 j u hu]
    congr 1; omega

mutual
def cmpV : V → V → Int
  | .mk k n s is fs, .mk k' n' s' is' fs' =>
    if k ≠ k' then cmpI k k' else if k = 1 ∨ k = 2 then cmpI n n' else if k = 3 then cmpS s s' else if k = 4 then cmpL is is' else if k = 5 then cmpFs fs fs' else 0
def cmpL : List V → List V → Int
  | [], [] => 0
  | [], _ :: _ => -1
  | _ :: _, [] => 1
  | x :: xs, y :: ys => orI (cmpV x y) (cmpL xs ys)
def cmpF : F → F → Int
  | .mk a x, .mk b y => orI (cmpS a b) (cmpV x y)
def cmpFs : List F → List F → Int
  | [], [] => 0
  | [], _ :: _ => -1
  | _ :: _, [] => 1
  | x :: xs, y :: ys => orI (cmpF x y) (cmpFs xs ys)
end
theorem orI_neg (a b : Int) : orI (-a) (-b) = - orI a b := by
  unfold orI; by_cases h : a = 0
  · simp [h]
  · have : -a ≠ 0 := by omega
    simp [h]
theorem orI_tri {a b : Int} (h : a = -1 ∨ a = 0 ∨ a = 1) (k : b = -1 ∨ b = 0 ∨ b = 1) : orI a b = -1 ∨ orI a b = 0 ∨ orI a b = 1 := by
  unfold orI; split <;> assumption
/-- what a first and a second comparison say of a third -/
def T3 (a b c : Int) : Prop := a ≤ 0 → b ≤ 0 → c ≤ 0 ∧ (c = 0 → a = 0 ∧ b = 0)
theorem T3.or {a b c a' b' c' : Int} (h : T3 a b c) (k : T3 a' b' c') : T3 (orI a a') (orI b b') (orI c c') := by
  unfold T3 at h k
  unfold T3 orI
  by_cases ea : a = 0 <;> by_cases eb : b = 0 <;> by_cases ec : c = 0
  all_goals (first | rw [if_pos ea] | rw [if_neg ea])
  all_goals (first | rw [if_pos eb] | rw [if_neg eb])
  all_goals (first | rw [if_pos ec] | rw [if_neg ec])
  all_goals (intro h1 h2; refine ⟨?_, fun e => ?_⟩ <;> omega)
theorem T3.of {α : Type} {c : α → α → Int} (anti : ∀ x y, c y x = - c x y) (tr : ∀ x y z, c x y ≤ 0 → c y z ≤ 0 → c x z ≤ 0) (x y z : α) : T3 (c x y) (c y z) (c x z) := by
  intro h1 h2
  have h3 := tr x y z h1 h2
  refine ⟨h3, fun e => ?_⟩
  have a1 := anti x z
  have a2 := anti x y
  have a3 := anti y z
  have t1 := tr y z x h2 (by omega)
  have t2 := tr z x y (by omega) h1
  omega
theorem cmpI_T3 (x y z : Int) : T3 (cmpI x y) (cmpI y z) (cmpI x z) := T3.of cmpI_anti (fun _ _ _ => cmpI_trans) x y z
theorem cmpS_T3 (x y z : ByteArray) : T3 (cmpS x y) (cmpS y z) (cmpS x z) := T3.of cmpS_anti (fun _ _ _ => cmpS_trans) x y z

mutual
theorem cmpV_self : ∀ x : V, cmpV x x = 0
  | .mk k n s is fs => by
    simp only [cmpV, cmpI_self, cmpS_self, cmpL_self is, cmpFs_self fs]; simp
theorem cmpL_self : ∀ x : List V, cmpL x x = 0
  | [] => by simp [cmpL]
  | x :: xs => by simp [cmpL, cmpV_self x, cmpL_self xs, orI]
theorem cmpF_self : ∀ x : F, cmpF x x = 0
  | .mk a x => by simp [cmpF, cmpS_self, cmpV_self x, orI]
theorem cmpFs_self : ∀ x : List F, cmpFs x x = 0
  | [] => by simp [cmpFs]
  | x :: xs => by simp [cmpFs, cmpF_self x, cmpFs_self xs, orI]
end
mutual
theorem cmpV_anti : ∀ x y : V, cmpV y x = - cmpV x y
  | .mk k n s is fs, .mk k' n' s' is' fs' => by
    simp only [cmpV]
    by_cases hk : k = k'
    · subst hk
      rw [cmpI_anti n n', cmpS_anti s s', cmpL_anti is is', cmpFs_anti fs fs']
      (repeat' split) <;> first | rfl | simp_all
    · have : k' ≠ k := fun e => hk e.symm
      simp [hk, this, cmpI_anti k k']
theorem cmpL_anti : ∀ x y : List V, cmpL y x = - cmpL x y
  | [], [] => by simp [cmpL]
  | [], _ :: _ => by simp [cmpL]
  | _ :: _, [] => by simp [cmpL]
  | x :: xs, y :: ys => by simp only [cmpL]; rw [cmpV_anti x y, cmpL_anti xs ys, orI_neg]
theorem cmpF_anti : ∀ x y : F, cmpF y x = - cmpF x y
  | .mk a x, .mk b y => by simp only [cmpF]; rw [cmpS_anti a b, cmpV_anti x y, orI_neg]
theorem cmpFs_anti : ∀ x y : List F, cmpFs y x = - cmpFs x y
  | [], [] => by simp [cmpFs]
  | [], _ :: _ => by simp [cmpFs]
  | _ :: _, [] => by simp [cmpFs]
  | x :: xs, y :: ys => by simp only [cmpFs]; rw [cmpF_anti x y, cmpFs_anti xs ys, orI_neg]
end
mutual
theorem cmpV_tri : ∀ x y : V, cmpV x y = -1 ∨ cmpV x y = 0 ∨ cmpV x y = 1
  | .mk k n s is fs, .mk k' n' s' is' fs' => by
    have h1 := cmpI_tri k k'
    have h2 := cmpI_tri n n'
    have h3 := cmpS_tri s s'
    have h4 := cmpL_tri is is'
    have h5 := cmpFs_tri fs fs'
    simp only [cmpV]
    (repeat' split) <;> first | assumption | simp
theorem cmpL_tri : ∀ x y : List V, cmpL x y = -1 ∨ cmpL x y = 0 ∨ cmpL x y = 1
  | [], [] => by simp [cmpL]
  | [], _ :: _ => by simp [cmpL]
  | _ :: _, [] => by simp [cmpL]
  | x :: xs, y :: ys => by simp only [cmpL]; exact orI_tri (cmpV_tri x y) (cmpL_tri xs ys)
theorem cmpF_tri : ∀ x y : F, cmpF x y = -1 ∨ cmpF x y = 0 ∨ cmpF x y = 1
  | .mk a x, .mk b y => by simp only [cmpF]; exact orI_tri (cmpS_tri a b) (cmpV_tri x y)
theorem cmpFs_tri : ∀ x y : List F, cmpFs x y = -1 ∨ cmpFs x y = 0 ∨ cmpFs x y = 1
  | [], [] => by simp [cmpFs]
  | [], _ :: _ => by simp [cmpFs]
  | _ :: _, [] => by simp [cmpFs]
  | x :: xs, y :: ys => by simp only [cmpFs]; exact orI_tri (cmpF_tri x y) (cmpFs_tri xs ys)
end
theorem cmpV_or (k n : Int) (s : ByteArray) (is : List V) (fs : List F) (k' n' : Int) (s' : ByteArray) (is' : List V) (fs' : List F) :
    cmpV (.mk k n s is fs) (.mk k' n' s' is' fs') = orI (cmpI k k') (if k = 1 ∨ k = 2 then cmpI n n' else if k = 3 then cmpS s s' else if k = 4 then cmpL is is' else if k = 5 then cmpFs fs fs' else 0) := by
  simp only [cmpV, orI]
  by_cases hk : k = k'
  · subst hk; simp [cmpI_self]
  · have : cmpI k k' ≠ 0 := fun e => hk (cmpI_zero e)
    simp [hk, this]
theorem T3.zero : T3 0 0 0 := by unfold T3; omega
mutual
theorem cmpV_T3 : ∀ x y z : V, T3 (cmpV x y) (cmpV y z) (cmpV x z)
  | .mk k n s is fs, .mk k' n' s' is' fs', .mk k'' n'' s'' is'' fs'' => by
    by_cases hk : k = k'
    · subst hk
      rw [cmpV_or, cmpV_or, cmpV_or]
      refine T3.or (cmpI_T3 _ _ _) ?_
      by_cases h1 : k = 1 ∨ k = 2
      · simp only [h1, if_true]; exact cmpI_T3 _ _ _
      · by_cases h3 : k = 3
        · simp only [if_neg h1, if_pos h3]; exact cmpS_T3 _ _ _
        · by_cases h4 : k = 4
          · simp only [if_neg h1, if_neg h3, if_pos h4]; exact cmpL_T3 is is' is''
          · by_cases h5 : k = 5
            · simp only [if_neg h1, if_neg h3, if_neg h4, if_pos h5]; exact cmpFs_T3 fs fs' fs''
            · simp only [h1, h3, h4, h5, if_false]; exact T3.zero
    · have h0 := cmpI_T3 k k' k''
      have h1 : cmpI k k' ≠ 0 := fun e => hk (cmpI_zero e)
      intro a b
      rw [cmpV_or] at a b
      rw [cmpV_or, cmpV_or, cmpV_or]
      have a' : cmpI k k' ≤ 0 := by unfold orI at a; rw [if_neg h1] at a; exact a
      have b' : cmpI k' k'' ≤ 0 := by unfold orI at b; split at b <;> omega
      have c := h0 a' b'
      have c1 : cmpI k k'' ≠ 0 := fun e => h1 (c.2 e).1
      unfold orI
      rw [if_neg c1]
      exact ⟨c.1, fun e => (c1 e).elim⟩
theorem cmpL_T3 : ∀ x y z : List V, T3 (cmpL x y) (cmpL y z) (cmpL x z)
  | [], [], [] => by simp [cmpL, T3]
  | [], [], _ :: _ => by simp [cmpL, T3]
  | [], _ :: _, [] => by simp [cmpL, T3]
  | [], _ :: _, _ :: _ => by simp [cmpL, T3]
  | _ :: _, [], _ => by simp [cmpL, T3]
  | _ :: _, _ :: _, [] => by simp [cmpL, T3]
  | x :: xs, y :: ys, z :: zs => by simp only [cmpL]; exact T3.or (cmpV_T3 x y z) (cmpL_T3 xs ys zs)
theorem cmpF_T3 : ∀ x y z : F, T3 (cmpF x y) (cmpF y z) (cmpF x z)
  | .mk a x, .mk b y, .mk c z => by simp only [cmpF]; exact T3.or (cmpS_T3 a b c) (cmpV_T3 x y z)
theorem cmpFs_T3 : ∀ x y z : List F, T3 (cmpFs x y) (cmpFs y z) (cmpFs x z)
  | [], [], [] => by simp [cmpFs, T3]
  | [], [], _ :: _ => by simp [cmpFs, T3]
  | [], _ :: _, [] => by simp [cmpFs, T3]
  | [], _ :: _, _ :: _ => by simp [cmpFs, T3]
  | _ :: _, [], _ => by simp [cmpFs, T3]
  | _ :: _, _ :: _, [] => by simp [cmpFs, T3]
  | x :: xs, y :: ys, z :: zs => by simp only [cmpFs]; exact T3.or (cmpF_T3 x y z) (cmpFs_T3 xs ys zs)
end
end Go.Proofs.YtbhcfmdogdaodaaGreatDoor
namespace Go.Proofs.YtbhcfmdogdaodaaGreatDoor
namespace Fd
def nmF : F → ByteArray
  | .mk a _ => a
def vlF : F → V
  | .mk _ x => x
theorem eta (f : F) : f = .mk (nmF f) (vlF f) := by cases f; rfl
def kind : V → Int
  | .mk k _ _ _ _ => k
def items : V → List V
  | .mk _ _ _ is _ => is
def fields : V → List F
  | .mk _ _ _ _ fs => fs
/-- the value of kind None; an object -/
def V0 : V := .mk 0 0 ByteArray.empty [] []
def obj (fs : List F) : V := .mk 5 0 ByteArray.empty [] fs
/-- fields in order -/
def Srt (l : List F) : Prop := l.Pairwise (fun a b => cmpS (nmF a) (nmF b) < 0)
theorem lt_trans {a b c : ByteArray} (h : cmpS a b < 0) (k : cmpS b c < 0) : cmpS a c < 0 := by
  have h1 := cmpS_trans (a := a) (b := b) (c := c) (by omega) (by omega)
  by_cases h2 : cmpS a c = 0
  · have h3 := cmpS_anti a c
    have h4 := cmpS_trans (a := b) (b := c) (c := a) (by omega) (by omega)
    have h5 := cmpS_anti a b
    omega
  · omega
theorem lt_ne {a b : ByteArray} (h : cmpS a b < 0) : a ≠ b := fun e => by rw [e, cmpS_self] at h; omega
/-- what reads under a name -/
def lk : List F → ByteArray → Option V
  | [], _ => none
  | f :: r, nm => if nmF f = nm then some (vlF f) else lk r nm
theorem lk_none {l : List F} {m : ByteArray} (h : ∀ f ∈ l, nmF f ≠ m) : lk l m = none := by
  induction l with
  | nil => rfl
  | cons f r ih =>
    unfold lk
    rw [if_neg (h f (by simp))]
    exact ih (fun g hg => h g (by simp [hg]))
theorem lk_mem {l : List F} {m : ByteArray} {x : V} (h : lk l m = some x) : .mk m x ∈ l := by
  induction l with
  | nil => cases h
  | cons f r ih =>
    unfold lk at h
    split at h
    · next e =>
      injection h with h
      rw [← e, ← h, ← eta]; simp
    · exact List.mem_cons_of_mem _ (ih h)
theorem lk_isSome {l : List F} {m : ByteArray} : (∃ f ∈ l, nmF f = m) ↔ ∃ x, lk l m = some x := by
  constructor
  · rintro ⟨f, hf, rfl⟩
    cases h : lk l (nmF f) with
    | some x => exact ⟨x, rfl⟩
    | none =>
      exfalso
      induction l with
      | nil => cases hf
      | cons g r ih =>
        unfold lk at h
        split at h
        · cases h
        · next e =>
          rcases List.mem_cons.1 hf with rfl | hf
          · exact e rfl
          · exact ih hf h
  · rintro ⟨x, hx⟩
    exact ⟨_, lk_mem hx, rfl⟩
/-- fields in order are those that read alike -/
theorem srt_ext : ∀ {l l' : List F}, Srt l → Srt l' → (∀ m, lk l m = lk l' m) → l = l'
  | [], [], _, _, _ => rfl
  | [], g :: r, _, _, h => by have := h (nmF g); unfold lk at this; rw [if_pos rfl] at this; cases this
  | f :: r, [], _, _, h => by have := h (nmF f); unfold lk at this; rw [if_pos rfl] at this; cases this
  | f :: r, g :: r', hs, hs', h => by
    obtain ⟨h1, h2⟩ := List.pairwise_cons.1 hs
    obtain ⟨h3, h4⟩ := List.pairwise_cons.1 hs'
    have a1 : lk (g :: r') (nmF f) = some (vlF f) := by rw [← h, lk, if_pos rfl]
    have a2 : lk (f :: r) (nmF g) = some (vlF g) := by rw [h, lk, if_pos rfl]
    have hn : nmF f = nmF g := Classical.byContradiction fun hne => by
      have b1 := lk_mem a1
      have b2 := lk_mem a2
      rcases List.mem_cons.1 b1 with e | b1
      · exact hne (by rw [← e]; rfl)
      rcases List.mem_cons.1 b2 with e | b2
      · exact hne (by rw [← e]; rfl)
      have c1 : cmpS (nmF g) (nmF f) < 0 := h3 (.mk (nmF f) (vlF f)) b1
      have c2 : cmpS (nmF f) (nmF g) < 0 := h1 (.mk (nmF g) (vlF g)) b2
      have := cmpS_anti (nmF f) (nmF g)
      omega
    have hv : vlF f = vlF g := by
      rw [lk, if_pos hn.symm] at a1
      injection a1 with a1
      exact a1.symm
    have hfg : f = g := by rw [eta f, eta g, hn, hv]
    subst hfg
    congr 1
    refine srt_ext h2 h4 (fun m => ?_)
    have hm := h m
    unfold lk at hm
    by_cases e : nmF f = m
    · subst e
      rw [lk_none (fun q hq => (lt_ne (h1 q hq)).symm), lk_none (fun q hq => (lt_ne (h3 q hq)).symm)]
    · rw [if_neg e, if_neg e] at hm
      exact hm
def dropF (nm : ByteArray) (l : List F) : List F := l.filter (fun f => decide (nmF f ≠ nm))
def putF (nm : ByteArray) (x : V) : List F → List F
  | [] => [.mk nm x]
  | f :: r => if cmpS nm (nmF f) < 0 then .mk nm x :: f :: r else if nm = nmF f then .mk nm x :: r else f :: putF nm x r
theorem srt_drop {l : List F} (h : Srt l) (nm : ByteArray) : Srt (dropF nm l) := h.filter _
theorem lk_drop (l : List F) (nm m : ByteArray) : lk (dropF nm l) m = if nm = m then none else lk l m := by
  induction l with
  | nil => unfold dropF; simp [lk]
  | cons f r ih =>
    unfold dropF at ih ⊢
    rw [List.filter_cons]
    by_cases h : nmF f = nm
    · rw [if_neg (by simp [h]), ih]
      by_cases e : nm = m
      · rw [if_pos e, if_pos e]
      · rw [if_neg e, if_neg e, lk, if_neg (by rw [h]; exact e)]
    · rw [if_pos (by simp [h]), lk, ih]
      by_cases e : nm = m
      · subst e
        rw [if_neg h, if_pos rfl, if_pos rfl]
      · rw [if_neg e, if_neg e, lk]
theorem mem_put {nm : ByteArray} {x : V} {l : List F} {f : F} (h : f ∈ putF nm x l) : f = .mk nm x ∨ f ∈ l := by
  induction l with
  | nil => unfold putF at h; exact .inl (by simpa using h)
  | cons g r ih =>
    unfold putF at h
    split at h
    · rcases List.mem_cons.1 h with h | h
      · exact .inl h
      · exact .inr h
    · split at h
      · rcases List.mem_cons.1 h with h | h
        · exact .inl h
        · exact .inr (List.mem_cons_of_mem _ h)
      · rcases List.mem_cons.1 h with h | h
        · exact .inr (by rw [h]; simp)
        · rcases ih h with h | h
          · exact .inl h
          · exact .inr (List.mem_cons_of_mem _ h)
theorem srt_put {l : List F} (h : Srt l) (nm : ByteArray) (x : V) : Srt (putF nm x l) := by
  induction l with
  | nil => unfold putF; exact List.pairwise_singleton _ _
  | cons g r ih =>
    obtain ⟨h1, h2⟩ := List.pairwise_cons.1 h
    unfold putF
    by_cases h3 : cmpS nm (nmF g) < 0
    · rw [if_pos h3]
      refine List.pairwise_cons.2 ⟨fun q hq => ?_, h⟩
      rcases List.mem_cons.1 hq with rfl | hq
      · exact h3
      · exact lt_trans h3 (h1 q hq)
    · rw [if_neg h3]
      by_cases h4 : nm = nmF g
      · rw [if_pos h4]
        refine List.pairwise_cons.2 ⟨fun q hq => ?_, h2⟩
        show cmpS nm (nmF q) < 0
        rw [h4]; exact h1 q hq
      · rw [if_neg h4]
        refine List.pairwise_cons.2 ⟨fun q hq => ?_, ih h2⟩
        rcases mem_put hq with rfl | hq
        · show cmpS (nmF g) nm < 0
          have := cmpS_anti nm (nmF g)
          by_cases h5 : cmpS nm (nmF g) = 0
          · exact absurd (cmpS_zero h5) h4
          · omega
        · exact h1 q hq
theorem lk_put {l : List F} (h : Srt l) (nm m : ByteArray) (x : V) : lk (putF nm x l) m = if nm = m then some x else lk l m := by
  induction l with
  | nil => unfold putF lk; rfl
  | cons g r ih =>
    obtain ⟨h1, h2⟩ := List.pairwise_cons.1 h
    unfold putF
    by_cases h3 : cmpS nm (nmF g) < 0
    · rw [if_pos h3, lk]; rfl
    · rw [if_neg h3]
      by_cases h4 : nm = nmF g
      · rw [if_pos h4, lk]
        by_cases e : nm = m
        · rw [if_pos e]
          show (if nm = m then _ else _) = _
          rw [if_pos e]; rfl
        · rw [if_neg e]
          show (if nm = m then _ else _) = _
          rw [if_neg e, lk, if_neg (by rw [← h4]; exact e)]
      · rw [if_neg h4, lk, ih h2]
        by_cases e : nm = m
        · subst e
          rw [if_neg (fun e => h4 e.symm), if_pos rfl, if_pos rfl]
        · rw [if_neg e, if_neg e, lk]
/-- fields put in, one after the other -/
def putAll (out : List F) (us : List F) : List F := us.foldl (fun o f => putF (nmF f) (vlF f) o) out
theorem srt_putAll : ∀ {us out : List F}, Srt out → Srt (putAll out us)
  | [], _, h => h
  | _f :: r, _out, h => srt_putAll (us := r) (srt_put h _ _)
theorem lk_putAll : ∀ {us out : List F} {m : ByteArray}, Srt out → (us.Pairwise fun a b => nmF a ≠ nmF b) → lk (putAll out us) m = match lk us m with | some x => some x | none => lk out m
  | [], _, _, _, _ => rfl
  | f :: r, out, m, h, hp => by
    obtain ⟨h1, h2⟩ := List.pairwise_cons.1 hp
    show lk (putAll (putF (nmF f) (vlF f) out) r) m = _
    rw [lk_putAll (srt_put h _ _) h2, lk_put h, lk]
    by_cases e : nmF f = m
    · subst e
      rw [if_pos rfl, if_pos rfl, lk_none (fun q hq => (h1 q hq).symm)]
    · rw [if_neg e, if_neg e]
/-- what is wrong with a value -/
def seenC (c : UInt8) : Bool := decide (32 ≤ c.toNat) && decide (c.toNat ≤ 126)
def seenB (s : ByteArray) : Bool := s.data.toList.all seenC
def spareB (k n : Int) (s : ByteArray) (ni nf : Nat) : Bool := (decide (n ≠ 0) && decide (k ≠ 1) && decide (k ≠ 2)) || (decide (s.size ≠ 0) && decide (k ≠ 3)) || (decide (0 < ni) && decide (k ≠ 4)) || (decide (0 < nf) && decide (k ≠ 5))
/-- what is wrong with a value but for those within it -/
def ownF (k n : Int) (s : ByteArray) (ni nf : Nat) : Int :=
  if k < 0 ∨ 5 < k then 4 else if spareB k n s ni nf = true then 3 else if k = 1 ∧ n ≠ 0 ∧ n ≠ 1 ∨ k = 2 ∧ (n ≤ -1000000000000000 ∨ 1000000000000000 ≤ n) then 1 else if 500 < s.size then 2 else if seenB s = false then 1 else if 100 < ni ∨ 100 < nf then 2 else 0
def nameBad (s : ByteArray) : Bool := decide (s.size = 0) || decide (60 < s.size) || !seenB s
def ordBad : Option ByteArray → ByteArray → Bool
  | none, _ => false
  | some q, nm => decide (cmpS nm q ≤ 0)
mutual
def chkV : V → Int
  | .mk k n s is fs => if ownF k n s is.length fs.length ≠ 0 then ownF k n s is.length fs.length else if chkL is ≠ 0 then chkL is else chkFs none fs
def chkL : List V → Int
  | [] => 0
  | x :: r => if chkV x ≠ 0 then chkV x else chkL r
def chkFs : Option ByteArray → List F → Int
  | _, [] => 0
  | p, .mk nm x :: r => if nameBad nm = true then 5 else if ordBad p nm = true then 8 else if chkV x ≠ 0 then chkV x else chkFs (some nm) r
end
end Fd
end Go.Proofs.YtbhcfmdogdaodaaGreatDoor
namespace Go.Proofs.YtbhcfmdogdaodaaGreatDoor
namespace Fd
mutual
def pN : V → Nat
  | .mk _ _ _ is fs => 1 + pNL is + pNF fs
def pNL : List V → Nat
  | [] => 0
  | x :: r => pN x + pNL r
def pNF : List F → Nat
  | [] => 0
  | .mk _ x :: r => pN x + pNF r
end
/- levels, in 64 bits -/
mutual
def cW : V → Int
  | .mk _ _ _ is fs => IntKind.i64.wrap (max (cWL is) (cWF fs) + 1)
def cWL : List V → Int
  | [] => 0
  | x :: r => max (cW x) (cWL r)
def cWF : List F → Int
  | [] => 0
  | .mk _ x :: r => max (cW x) (cWF r)
end
mutual
def lv : V → Nat
  | .mk _ _ _ is fs => 1 + max (lvL is) (lvF fs)
def lvL : List V → Nat
  | [] => 0
  | x :: r => max (lv x) (lvL r)
def lvF : List F → Nat
  | [] => 0
  | .mk _ x :: r => max (lv x) (lvF r)
end
theorem pN_pos (v : V) : 1 ≤ pN v := by cases v; unfold pN; omega
mutual
theorem lv_le : ∀ v : V, lv v ≤ pN v
  | .mk _ _ _ is fs => by
    have h1 := lvL_le is
    have h2 := lvF_le fs
    unfold lv pN; omega
theorem lvL_le : ∀ l : List V, lvL l ≤ pNL l
  | [] => by unfold lvL pNL; omega
  | x :: r => by
    have h1 := lv_le x
    have h2 := lvL_le r
    unfold lvL pNL; omega
theorem lvF_le : ∀ l : List F, lvF l ≤ pNF l
  | [] => by unfold lvF pNF; omega
  | .mk _ x :: r => by
    have h1 := lv_le x
    have h2 := lvF_le r
    unfold lvF pNF; omega
end
mutual
theorem cW_is : ∀ v : V, pN v ≤ 1000000000 → cW v = (lv v : Int)
  | .mk _ _ _ is fs, h => by
    unfold pN at h
    have h1 := cWL_is is (by omega)
    have h2 := cWF_is fs (by omega)
    have h3 := lvL_le is
    have h4 := lvF_le fs
    unfold cW lv
    rw [h1, h2, IntKind.wrap_i64]
    omega
theorem cWL_is : ∀ l : List V, pNL l ≤ 1000000000 → cWL l = (lvL l : Int)
  | [], _ => by unfold cWL lvL; rfl
  | x :: r, h => by
    unfold pNL at h
    have h1 := cW_is x (by omega)
    have h2 := cWL_is r (by omega)
    unfold cWL lvL
    rw [h1, h2]; omega
theorem cWF_is : ∀ l : List F, pNF l ≤ 1000000000 → cWF l = (lvF l : Int)
  | [], _ => by unfold cWF lvF; rfl
  | .mk _ x :: r, h => by
    unfold pNF at h
    have h1 := cW_is x (by omega)
    have h2 := cWF_is r (by omega)
    unfold cWF lvF
    rw [h1, h2]; omega
end
/-- what Check says of a value: too many parts or levels, or what is wrong with a part -/
def chkF (v : V) : Int := if 1000 < IntKind.i64.wrap (pN v : Int) ∨ 8 < cW v then 2 else chkV v
/-- is a value too large at a level? -/
def bigAt (level : Nat) (v : V) : Prop := 8 < level - 1 + lv v ∨ 1000 < pN v
/-- what the reference counts of a value at a level: n parts, d: one is too deep -/
def RefP (level : Nat) (v : V) (n : Int) (d : Bool) : Prop := ((d = true ∨ 1000 < n) ↔ bigAt level v) ∧ (¬ (d = true ∨ 1000 < n) → n = pN v) ∧ 1 ≤ n ∧ n ≤ pN v
theorem chkF_is {v : V} (h : pN v ≤ 1000000000) {n : Int} {d : Bool} (hr : RefP 1 v n d) : chkF v = if d = true ∨ 1000 < n then 2 else chkV v := by
  have h1 : (1000 < IntKind.i64.wrap (pN v : Int) ∨ 8 < cW v) ↔ bigAt 1 v := by
    rw [cW_is v h, IntKind.wrap_i64]
    unfold bigAt
    omega
  unfold chkF
  by_cases hb : bigAt 1 v
  · rw [if_pos (h1.2 hb), if_pos (hr.1.2 hb)]
  · rw [if_neg (fun e => hb (h1.1 e)), if_neg (fun e => hb (hr.1.1 e))]
/-- the values within a value -/
def inner (v : V) : List V := items v ++ (fields v).map vlF
theorem pNL_append (a b : List V) : pNL (a ++ b) = pNL a + pNL b := by
  induction a with
  | nil => unfold pNL; simp
  | cons x r ih => rw [List.cons_append, pNL, pNL, ih]; omega
theorem lvL_append (a b : List V) : lvL (a ++ b) = max (lvL a) (lvL b) := by
  induction a with
  | nil => simp [lvL]
  | cons x r ih => rw [List.cons_append, lvL, lvL, ih]; omega
theorem pNF_map (l : List F) : pNF l = pNL (l.map vlF) := by
  induction l with
  | nil => simp [pNF, pNL]
  | cons f r ih => cases f; rw [List.map_cons, pNL, pNF, ih]; rfl
theorem lvF_map (l : List F) : lvF l = lvL (l.map vlF) := by
  induction l with
  | nil => simp [lvF, lvL]
  | cons f r ih => cases f; rw [List.map_cons, lvL, lvF, ih]; rfl
theorem pN_inner (v : V) : pN v = 1 + pNL (inner v) := by
  obtain ⟨k, n, s, is, fs⟩ := v
  show pN (.mk k n s is fs) = 1 + pNL (is ++ fs.map vlF)
  rw [pN, pNL_append, ← pNF_map]; omega
theorem lv_inner (v : V) : lv v = 1 + lvL (inner v) := by
  obtain ⟨k, n, s, is, fs⟩ := v
  show lv (.mk k n s is fs) = 1 + lvL (is ++ fs.map vlF)
  rw [lv, lvL_append, ← lvF_map]
/-- what holds of the count when the first values within have been looked at -/
structure CntI (level : Nat) (v : V) (done : List V) (n : Int) (d : Bool) : Prop where
  big : (d = true ∨ 1000 < n) → bigAt level v
  ok : ¬ (d = true ∨ 1000 < n) → n = 1 + (pNL done : Int) ∧ level ≤ 8 ∧ level + lvL done ≤ 8
  lo : 1 ≤ n
  hi : n ≤ 1 + (pNL done : Int)
theorem CntI.start {level : Nat} {v : V} (h : 1 ≤ level) : CntI level v [] 1 (decide (8 < level)) := by
  have h1 := lv_inner v
  refine ⟨fun h2 => ?_, fun h2 => ?_, by omega, by simp [pNL]⟩
  · rcases h2 with h2 | h2
    · have := of_decide_eq_true h2
      left; omega
    · omega
  · have h3 : ¬ 8 < level := fun e => h2 (.inl (decide_eq_true e))
    simp only [pNL, lvL]
    omega
theorem pNL_mem : ∀ {l : List V} {x : V}, x ∈ l → pN x ≤ pNL l ∧ lv x ≤ lvL l
  | [], _, h => by cases h
  | y :: r, x, h => by
    unfold pNL lvL
    rcases List.mem_cons.1 h with rfl | h
    · omega
    · have := pNL_mem h
      omega
theorem CntI.step {level : Nat} {v x : V} {done rest : List V} {n m : Int} {d e : Bool} (hin : inner v = done ++ x :: rest) (h : CntI level v done n d) (hn : ¬ (d = true ∨ 1000 < n)) (hl : 1 ≤ level) (hx : RefP (level + 1) x m e) : CntI level v (done ++ [x]) (n + m) (d || e) := by
  obtain ⟨k1, k2, k3⟩ := h.ok hn
  obtain ⟨r1, r2, r3, r4⟩ := hx
  have hd : d = false := by cases d; rfl; exact absurd (.inl rfl) hn
  subst hd
  have hp := pN_inner v
  have hv := lv_inner v
  rw [hin, pNL_append] at hp
  rw [hin, lvL_append] at hv
  simp only [pNL] at hp
  simp only [lvL] at hv
  have hpd : pNL (done ++ [x]) = pNL done + pN x := by rw [pNL_append]; simp [pNL]
  have hld : lvL (done ++ [x]) = max (lvL done) (lv x) := by rw [lvL_append]; simp [lvL]
  refine ⟨fun hb => ?_, fun hb => ?_, by omega, by rw [hpd]; omega⟩
  · unfold bigAt
    by_cases hxb : bigAt (level + 1) x
    · unfold bigAt at hxb; omega
    · have := r2 (fun e => hxb (r1.1 e))
      have hne : ¬ (e = true) := fun e9 => hxb (r1.1 (.inl e9))
      rcases hb with hb | hb
      · simp only [Bool.false_or] at hb; exact absurd hb hne
      · omega
  · have hxb : ¬ (e = true ∨ 1000 < m) := fun e9 => by
      refine hb ?_
      rcases e9 with e9 | e9
      · exact .inl (by rw [e9]; rfl)
      · exact .inr (by omega)
    have h5 := r2 hxb
    have h6 : ¬ bigAt (level + 1) x := fun e9 => hxb (r1.2 e9)
    unfold bigAt at h6
    rw [hpd, hld]
    omega
theorem CntI.fin {level : Nat} {v : V} {n : Int} {d : Bool} (h : CntI level v (inner v) n d) (hl : 1 ≤ level) : RefP level v n d := by
  have hp := pN_inner v
  have hv := lv_inner v
  refine ⟨⟨h.big, fun hb => Classical.byContradiction fun hn => ?_⟩, fun hn => ?_, h.lo, by have := h.hi; omega⟩
  · obtain ⟨k1, k2, k3⟩ := h.ok hn
    unfold bigAt at hb
    omega
  · obtain ⟨k1, k2, k3⟩ := h.ok hn
    omega
theorem CntI.brk {level : Nat} {v : V} {done rest : List V} {n : Int} {d : Bool} (hin : inner v = done ++ rest) (h : CntI level v done n d) (hb : d = true ∨ 1000 < n) : RefP level v n d := by
  have hp := pN_inner v
  rw [hin, pNL_append] at hp
  exact ⟨⟨h.big, fun _ => hb⟩, fun hn => absurd hb hn, h.lo, by have := h.hi; omega⟩
end Fd
end Go.Proofs.YtbhcfmdogdaodaaGreatDoor
namespace Go.Proofs.YtbhcfmdogdaodaaGreatDoor
namespace Nm
/-- the base -/
def B : Nat := 4294967296
def val : List Nat → Nat
  | [] => 0
  | x :: l => x + B * val l
def Dg (l : List Nat) : Prop := ∀ x ∈ l, x < B
theorem Dg.nil : Dg [] := fun _ h => by cases h
theorem Dg.cons {x : Nat} {l : List Nat} : Dg (x :: l) ↔ x < B ∧ Dg l := by
  constructor
  · intro h; exact ⟨h x (by simp), fun y hy => h y (by simp [hy])⟩
  · rintro ⟨h, k⟩ y hy
    rcases List.mem_cons.1 hy with rfl | hy
    · exact h
    · exact k y hy
theorem Dg.take {l : List Nat} (h : Dg l) (k : Nat) : Dg (l.take k) := fun x hx => h x (List.mem_of_mem_take hx)
theorem Dg.drop {l : List Nat} (h : Dg l) (k : Nat) : Dg (l.drop k) := fun x hx => h x (List.mem_of_mem_drop hx)
theorem Dg.get {l : List Nat} (h : Dg l) {k : Nat} (hk : k < l.length) : l[k] < B := h _ (List.getElem_mem hk)
theorem Dg.append {l m : List Nat} (h : Dg l) (k : Dg m) : Dg (l ++ m) := fun x hx => by
  rcases List.mem_append.1 hx with hx | hx
  · exact h x hx
  · exact k x hx
theorem Dg.set {l : List Nat} (h : Dg l) (k : Nat) {x : Nat} (hx : x < B) : Dg (l.set k x) := fun y hy => by
  rcases List.mem_or_eq_of_mem_set hy with hy | rfl
  · exact h y hy
  · exact hx
end Nm
end Go.Proofs.YtbhcfmdogdaodaaGreatDoor
namespace Go.Proofs.YtbhcfmdogdaodaaGreatDoor
namespace Nm
def digv (c : UInt8) : Nat := c.toNat - 48
/-- what digits mean -/
def decv (l : List UInt8) : Nat := l.foldl (fun a c => a * 10 + digv c) 0
theorem decv_foldl (m : List UInt8) : ∀ a, m.foldl (fun a c => a * 10 + digv c) a = a * 10 ^ m.length + decv m := by
  induction m with
  | nil => intro a; simp [decv]
  | cons c m ih =>
    intro a
    unfold decv
    simp only [List.foldl_cons, List.length_cons]
    rw [ih, ih (0 * 10 + digv c), Nat.pow_succ, Nat.zero_mul, Nat.zero_add, Nat.add_mul, Nat.mul_assoc, Nat.mul_comm 10]
    omega
theorem decv_append (l m : List UInt8) : decv (l ++ m) = decv l * 10 ^ m.length + decv m := by
  unfold decv; rw [List.foldl_append]; exact decv_foldl m _
theorem decv_snoc (l : List UInt8) (c : UInt8) : decv (l ++ [c]) = decv l * 10 + digv c := by rw [decv_append]; simp [decv]
/-- digits alone -/
def Digs (l : List UInt8) : Prop := ∀ c ∈ l, 48 ≤ c.toNat ∧ c.toNat ≤ 57
theorem Digs.take {l : List UInt8} (h : Digs l) (k : Nat) : Digs (l.take k) := fun c hc => h c (List.mem_of_mem_take hc)
theorem Digs.drop {l : List UInt8} (h : Digs l) (k : Nat) : Digs (l.drop k) := fun c hc => h c (List.mem_of_mem_drop hc)
theorem decv_lt {l : List UInt8} (h : Digs l) : decv l < 10 ^ l.length := by
  rw [← List.reverse_reverse l] at h ⊢
  generalize l.reverse = r at *
  induction r with
  | nil => simp [decv]
  | cons c r ih =>
    rw [List.reverse_cons] at h ⊢
    have h1 := ih (fun d hd => h d (by simp at hd ⊢; exact .inl hd))
    have h2 := h c (by simp)
    rw [decv_snoc, List.length_append, List.length_singleton, Nat.pow_succ]
    unfold digv
    omega
end Nm
end Go.Proofs.YtbhcfmdogdaodaaGreatDoor
namespace Go.Proofs.YtbhcfmdogdaodaaGreatDoor
namespace Nm
/-- the letter of a digit -/
def dch (d : Nat) : UInt8 := UInt8.ofNat (48 + d)
/-- the numeral -/
def decS (x : Nat) : List UInt8 := if _h : x < 10 then [dch x] else decS (x / 10) ++ [dch (x % 10)]
  termination_by x
  decreasing_by omega
end Nm
end Go.Proofs.YtbhcfmdogdaodaaGreatDoor
