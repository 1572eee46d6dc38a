/- Plain: ranges of an order: what two ranges put together are, and that a range is one by what it covers. No program stands in it. Plain: a range in order is one by what it covers. No program stands in it. CompareVersions, slices.Equal at strings, sameVersion. sameVersion; the order of versions, in plain words. -/
import Derived.Test.YtiogfdkdhfmamaaGreatDoorRb00
import Derived.Test.YtiogfdkdhfmamaaGreatDoorRb01
namespace Go.Proofs.YtiogfdkdhfmamaaGreatDoor
namespace Rg
/-- an order, total among those that are right -/
structure Lin {α : Type} (cmp : α → α → Int) (ok : α → Prop) : Prop where
  self : ∀ a, cmp a a = 0
  anti : ∀ a b, cmp b a = - cmp a b
  trans : ∀ a b c, cmp a b ≤ 0 → cmp b c ≤ 0 → cmp a c ≤ 0
  zero : ∀ a b, ok a → ok b → cmp a b = 0 → a = b
structure Str (α : Type) where
  fr : α
  to : Option α
section
variable {α : Type} {cmp : α → α → Int} {ok : α → Prop}
theorem Lin.lt_le (h : Lin cmp ok) {a b c : α} (h1 : cmp a b < 0) (h2 : cmp b c ≤ 0) : cmp a c < 0 := by
  have h3 := h.trans a b c (by omega) h2
  by_cases h4 : cmp a c = 0
  · have h5 := h.anti a c
    have h6 := h.trans b c a h2 (by omega)
    have h7 := h.anti a b
    omega
  · omega
theorem Lin.le_lt (h : Lin cmp ok) {a b c : α} (h1 : cmp a b ≤ 0) (h2 : cmp b c < 0) : cmp a c < 0 := by
  have h3 := h.trans a b c h1 (by omega)
  by_cases h4 : cmp a c = 0
  · have h5 := h.anti a c
    have h6 := h.trans c a b (by omega) h1
    have h7 := h.anti b c
    omega
  · omega
variable (cmp)
/-- is a place in a stretch? -/
def inS (s : Str α) (c : α) : Bool := decide (cmp s.fr c ≤ 0) && (match s.to with | none => true | some t => decide (cmp c t < 0))
def cov (l : List (Str α)) (c : α) : Bool := l.any (inS cmp · c)
def cutsS (s : Str α) : List α := s.fr :: s.to.toList
def cutsL (l : List (Str α)) : List α := l.flatMap cutsS
/-- the last stretch ends at a place -/
def endAt (l : List (Str α)) (c : α) : List (Str α) := match l.getLast? with
  | none => l
  | some s => l.dropLast ++ [⟨s.fr, some c⟩]
def stepC (g : α → Bool) (st : List (Str α) × Bool) (c : α) : List (Str α) × Bool :=
  (if g c = true ∧ st.2 = false then st.1 ++ [⟨c, none⟩] else if g c = false ∧ st.2 = true then endAt st.1 c else st.1, g c)
def comb (g : α → Bool) (C : List α) : List (Str α) × Bool := C.foldl (stepC g) ([], false)
theorem comb_snoc (g : α → Bool) (C : List α) (c : α) : comb g (C ++ [c]) = stepC g (comb g C) c := by unfold comb; rw [List.foldl_append]; rfl
theorem comb_take {g : α → Bool} {C : List α} {k : Nat} {c : α} (h : C[k]? = some c) : comb g (C.take (k + 1)) = stepC g (comb g (C.take k)) c := by
  obtain ⟨hk, rfl⟩ := List.getElem?_eq_some_iff.1 h
  rw [List.take_succ_eq_append_getElem hk, comb_snoc]
/-- a range in order -/
def Valid : List (Str α) → Prop
  | [] => True
  | s :: r => (∀ t, s.to = some t → cmp s.fr t < 0) ∧ (∀ s' ∈ r.head?, ∃ t, s.to = some t ∧ cmp t s'.fr < 0) ∧ Valid r
/-- what holds at the greatest place that is not behind x -/
def gAt (g : α → Bool) (P : List α) (x : α) : Bool := P.foldl (fun acc c => if cmp c x ≤ 0 then g c else acc) false
theorem gAt_snoc (g : α → Bool) (P : List α) (c x : α) : gAt cmp g (P ++ [c]) x = if cmp c x ≤ 0 then g c else gAt cmp g P x := by
  unfold gAt; rw [List.foldl_append]; rfl
variable {cmp}
theorem cov_append (l m : List (Str α)) (x : α) : cov cmp (l ++ m) x = (cov cmp l x || cov cmp m x) := by unfold cov; rw [List.any_append]
theorem cov_one (s : Str α) (x : α) : cov cmp [s] x = inS cmp s x := by simp [cov]
theorem valid_append : ∀ {l m : List (Str α)}, Valid cmp l → Valid cmp m → (∀ s ∈ l.getLast?, ∀ s' ∈ m.head?, ∃ t, s.to = some t ∧ cmp t s'.fr < 0) → Valid cmp (l ++ m)
  | [], m, _, h2, _ => h2
  | [s], m, h1, h2, h3 => ⟨h1.1, fun s' hs' => h3 s (by simp) s' hs', h2⟩
  | s :: s2 :: r, m, h1, h2, h3 => ⟨h1.1, fun s' hs' => h1.2.1 s' (by simpa using hs'), valid_append h1.2.2 h2 (fun s9 h9 => h3 s9 (by simpa using h9))⟩
theorem valid_split : ∀ {l m : List (Str α)}, Valid cmp (l ++ m) → Valid cmp l ∧ Valid cmp m
  | [], m, h => ⟨trivial, h⟩
  | [s], m, h => ⟨⟨h.1, fun s' hs' => (by cases hs'), trivial⟩, h.2.2⟩
  | s :: s2 :: r, m, h => by
    obtain ⟨h1, h2⟩ := valid_split (l := s2 :: r) h.2.2
    exact ⟨⟨h.1, fun s' hs' => h.2.1 s' (by simpa using hs'), h1⟩, h2⟩
/-- where putting together stands -/
structure Inv (cmp : α → α → Int) (g : α → Bool) (P : List α) (st : List (Str α) × Bool) : Prop where
  valid : Valid cmp st.1
  sub : ∀ s ∈ st.1, s.fr ∈ P ∧ ∀ t, s.to = some t → t ∈ P
  fin : ∀ s ∈ st.1.dropLast, s.to ≠ none
  isOpen : st.2 = true → ∃ s, st.1.getLast? = some s ∧ s.to = none ∧ g s.fr = true
  shut : st.2 = false → ∀ s, st.1.getLast? = some s → ∃ t, s.to = some t ∧ g t = false
  cov : ∀ x, cov cmp st.1 x = gAt cmp g P x
theorem last_split {l : List (Str α)} {s : Str α} (h : l.getLast? = some s) : l = l.dropLast ++ [s] := by
  obtain ⟨ys, rfl⟩ := List.getLast?_eq_some_iff.1 h
  simp
theorem Inv.step (h : Lin cmp ok) {g : α → Bool} {P : List α} {st : List (Str α) × Bool} (hi : Inv cmp g P st) {c : α} (hle : ∀ p ∈ P, cmp p c ≤ 0) (hok : ∀ p ∈ P, ok p) (hc : ok c) : Inv cmp g (P ++ [c]) (stepC g st c) := by
  obtain ⟨out, op⟩ := st
  have hne : ∀ p ∈ P, g p ≠ g c → cmp p c < 0 := by
    intro p hp hg
    have h1 := hle p hp
    by_cases h2 : cmp p c = 0
    · have h3 := h.zero p c (hok p hp) hc h2
      rw [h3] at hg; exact absurd rfl hg
    · omega
  have hsub : ∀ s ∈ out, s.fr ∈ P ++ [c] ∧ ∀ t, s.to = some t → t ∈ P ++ [c] := fun s hs => ⟨List.mem_append_left _ (hi.sub s hs).1, fun t ht => List.mem_append_left _ ((hi.sub s hs).2 t ht)⟩
  -- behind all that has ended nothing is covered
  have hpast : ∀ l : List (Str α), (∀ s ∈ l, s ∈ out) → (∀ s ∈ l, s.to ≠ none) → ∀ x, cmp c x ≤ 0 → Rg.cov cmp l x = false := by
    intro l hl hf x hx
    unfold Rg.cov
    rw [List.any_eq_false]
    intro s hs
    cases ht : s.to with
    | none => exact absurd ht (hf s hs)
    | some t =>
      have h1 := h.trans t c x (hle t ((hi.sub s (hl s hs)).2 t ht)) hx
      have h2 := h.anti t x
      unfold inS
      rw [ht]
      simp only [Bool.and_eq_true, decide_eq_true_eq, not_and]
      omega
  cases hg : g c with
  | true =>
    cases op with
    | false =>
      have e : stepC g (out, false) c = (out ++ [⟨c, none⟩], true) := by unfold stepC; rw [hg]; simp
      rw [e]
      refine ⟨?_, ?_, ?_, ?_, ?_, ?_⟩
      · refine valid_append hi.valid ⟨(fun t ht => by cases ht), (fun s' hs' => by cases hs'), trivial⟩ (fun s hs s' hs' => ?_)
        obtain ⟨t, h1, h2⟩ := hi.shut rfl s hs
        have h3 : s' = ⟨c, none⟩ := by simpa using hs'.symm
        subst h3
        refine ⟨t, h1, hne t ((hi.sub s (List.mem_of_getLast? hs)).2 t h1) (by rw [h2, hg]; simp)⟩
      · intro s hs
        rcases List.mem_append.1 hs with hs | hs
        · exact hsub s hs
        · obtain rfl := List.mem_singleton.1 hs
          exact ⟨by simp, fun t ht => by cases ht⟩
      · intro s hs
        rw [List.dropLast_concat] at hs
        rcases Classical.em (s ∈ out.dropLast) with h1 | h1
        · exact hi.fin s h1
        · cases hl : out.getLast? with
          | none => rw [List.getLast?_eq_none_iff.1 hl] at hs; cases hs
          | some s9 =>
            rw [last_split hl] at hs
            rcases List.mem_append.1 hs with h2 | h2
            · exact absurd h2 h1
            · obtain rfl := List.mem_singleton.1 h2
              obtain ⟨t, h3, _⟩ := hi.shut rfl s hl
              rw [h3]; simp
      · intro _
        exact ⟨⟨c, none⟩, by simp, rfl, hg⟩
      · intro h9; cases h9
      · intro x
        rw [gAt_snoc, cov_append, cov_one, hi.cov x]
        unfold inS
        by_cases hx : cmp c x ≤ 0
        · rw [if_pos hx, hg]; simp [hx]
        · rw [if_neg hx]; simp [hx]
    | true =>
      have e : stepC g (out, true) c = (out, true) := by unfold stepC; rw [hg]; simp
      rw [e]
      refine ⟨hi.valid, hsub, hi.fin, hi.isOpen, (fun h9 => by cases h9), fun x => ?_⟩
      rw [gAt_snoc]
      by_cases hx : cmp c x ≤ 0
      · rw [if_pos hx, hg]
        obtain ⟨s, h1, h2, _⟩ := hi.isOpen rfl
        have h3 := List.mem_of_getLast? h1
        unfold Rg.cov
        rw [List.any_eq_true]
        refine ⟨s, h3, ?_⟩
        unfold inS
        rw [h2]
        have := h.trans _ _ _ (hle _ (hi.sub s h3).1) hx
        simp [this]
      · rw [if_neg hx]; exact hi.cov x
  | false =>
    cases op with
    | false =>
      have e : stepC g (out, false) c = (out, false) := by unfold stepC; rw [hg]; simp
      rw [e]
      refine ⟨hi.valid, hsub, hi.fin, (fun h9 => by cases h9), hi.shut, fun x => ?_⟩
      rw [gAt_snoc]
      by_cases hx : cmp c x ≤ 0
      · rw [if_pos hx, hg]
        refine hpast out (fun _ h => h) (fun s hs => ?_) x hx
        cases hl : out.getLast? with
        | none => rw [List.getLast?_eq_none_iff.1 hl] at hs; cases hs
        | some s9 =>
          rw [last_split hl] at hs
          rcases List.mem_append.1 hs with h2 | h2
          · exact hi.fin s h2
          · obtain rfl := List.mem_singleton.1 h2
            obtain ⟨t, h3, _⟩ := hi.shut rfl s hl
            rw [h3]; simp
      · rw [if_neg hx]; exact hi.cov x
    | true =>
      obtain ⟨s, h1, h2, h3⟩ := hi.isOpen rfl
      have hs9 : out = out.dropLast ++ [s] := last_split h1
      obtain ⟨o', ho'⟩ : ∃ z, out.dropLast = z := ⟨_, rfl⟩
      rw [ho'] at hs9
      have e : stepC g (out, true) c = (o' ++ [⟨s.fr, some c⟩], false) := by unfold stepC endAt; rw [hg]; simp [h1, ho']
      have hsP := (hi.sub s (List.mem_of_getLast? h1)).1
      have hlt := hne s.fr hsP (by rw [h3, hg]; simp)
      rw [e]
      have hv : Valid cmp out := hi.valid
      rw [hs9] at hv
      obtain ⟨v1, v2⟩ := valid_split hv
      have hadj : ∀ q ∈ o'.getLast?, ∃ t, q.to = some t ∧ cmp t s.fr < 0 := by
        intro q hq
        have : ∀ {l : List (Str α)} {q : Str α}, Valid cmp (l ++ [s]) → l.getLast? = some q → ∃ t, q.to = some t ∧ cmp t s.fr < 0 := by
          intro l
          induction l with
          | nil => intro q _ hq; simp at hq
          | cons y l ih =>
            intro q hv hq
            cases l with
            | nil =>
              simp at hq
              subst hq
              exact hv.2.1 s (by simp)
            | cons y2 l2 => exact ih hv.2.2 (by simpa using hq)
        exact this hv hq
      refine ⟨?_, ?_, ?_, (fun h9 => by cases h9), ?_, ?_⟩
      · refine valid_append v1 ⟨(fun t ht => by cases ht; exact hlt), (fun s' hs' => by cases hs'), trivial⟩ (fun q hq s' hs' => ?_)
        have h4 : s' = ⟨s.fr, some c⟩ := by simpa using hs'.symm
        subst h4
        exact hadj q hq
      · intro q hq
        rcases List.mem_append.1 hq with hq | hq
        · exact hsub q (by rw [hs9]; exact List.mem_append_left _ hq)
        · obtain rfl := List.mem_singleton.1 hq
          exact ⟨List.mem_append_left _ hsP, fun t ht => by cases ht; simp⟩
      · intro q hq
        rw [List.dropLast_concat] at hq
        exact hi.fin q (by show q ∈ out.dropLast; rw [ho']; exact hq)
      · intro _ q hq
        have h4 : q = ⟨s.fr, some c⟩ := by simpa using hq.symm
        subst h4
        exact ⟨c, rfl, hg⟩
      · intro x
        rw [gAt_snoc]
        by_cases hx : cmp c x ≤ 0
        · rw [if_pos hx, hg, cov_append, hpast o' (fun q hq => by rw [hs9]; exact List.mem_append_left _ hq) (fun q hq => hi.fin q (by show q ∈ out.dropLast; rw [ho']; exact hq)) x hx, cov_one]
          unfold inS
          have := h.anti c x
          simp only [Bool.false_or, Bool.and_eq_false_iff, decide_eq_false_iff_not]
          exact .inr (by omega)
        · rw [if_neg hx, ← hi.cov x]
          show _ = Rg.cov cmp out x
          rw [hs9, cov_append, cov_append, cov_one, cov_one]
          congr 1
          unfold inS
          rw [h2]
          have := h.anti c x
          show (decide (cmp s.fr x ≤ 0) && decide (cmp x c < 0)) = (decide (cmp s.fr x ≤ 0) && true)
          rw [decide_eq_true (show cmp x c < 0 by omega)]
theorem comb_inv (h : Lin cmp ok) {g : α → Bool} : ∀ {C : List α}, C.Pairwise (fun a b => cmp a b ≤ 0) → (∀ c ∈ C, ok c) → Inv cmp g C (comb g C) := by
  intro C hs hok
  have key : ∀ k, k ≤ C.length → Inv cmp g (C.take k) (comb g (C.take k)) := by
    intro k
    induction k with
    | zero =>
      intro _
      rw [List.take_zero]
      exact ⟨trivial, (fun s hs => by cases hs), (fun s hs => by cases hs), (fun h9 => by cases h9), (fun _ s hs => by simp [comb] at hs), fun x => rfl⟩
    | succ k ih =>
      intro hk
      have hg := List.getElem?_eq_getElem (show k < C.length by omega)
      rw [comb_take hg, List.take_succ_eq_append_getElem (by omega)]
      refine (ih (by omega)).step h (fun p hp => ?_) (fun p hp => hok p (List.mem_of_mem_take hp)) (hok _ (List.getElem_mem _))
      obtain ⟨i, hi, rfl⟩ := List.getElem_of_mem hp
      rw [List.length_take] at hi
      rw [List.getElem_take]
      exact List.pairwise_iff_getElem.1 hs i k (by omega) (by omega) (by omega)
  have := key C.length (Nat.le_refl _)
  rwa [List.take_length] at this
/-- what holds anywhere is what holds at the greatest of the places -/
theorem gAt_is (h : Lin cmp ok) {f : Bool → Bool → Bool} (hf : f false false = false) {a b : List (Str α)} : ∀ {C : List α}, C.Pairwise (fun p q => cmp p q ≤ 0) → (∀ c ∈ cutsL a, c ∈ C) → (∀ c ∈ cutsL b, c ∈ C) → ∀ x, gAt cmp (fun c => f (cov cmp a c) (cov cmp b c)) C x = f (cov cmp a x) (cov cmp b x) := by
  intro C hs ha hb x
  -- the places up to x
  have key : ∀ (C2 C1 : List α), C = C1 ++ C2 → (∀ c ∈ C1, cmp c x ≤ 0) → (∀ c ∈ C2, ¬ cmp c x ≤ 0) → gAt cmp (fun c => f (cov cmp a c) (cov cmp b c)) C x = f (cov cmp a x) (cov cmp b x) := by
    intro C2 C1 hC h1 h2
    have hfold : ∀ (C2 : List α) (acc : Bool), (∀ c ∈ C2, ¬ cmp c x ≤ 0) → C2.foldl (fun acc c => if cmp c x ≤ 0 then f (cov cmp a c) (cov cmp b c) else acc) acc = acc := by
      intro C2
      induction C2 with
      | nil => intro acc _; rfl
      | cons c C2 ih => intro acc hh; rw [List.foldl_cons, if_neg (hh c (by simp))]; exact ih acc (fun c hc => hh c (by simp [hc]))
    unfold gAt
    rw [hC, List.foldl_append, hfold C2 _ h2]
    have hin : ∀ c, c ∈ C → cmp c x ≤ 0 → c ∈ C1 := by
      intro c hc hx
      rw [hC] at hc
      rcases List.mem_append.1 hc with hc | hc
      · exact hc
      · exact absurd hx (h2 c hc)
    cases hl : C1.getLast? with
    | none =>
      have h3 := List.getLast?_eq_none_iff.1 hl
      subst h3
      have hz : ∀ l : List (Str α), (∀ c ∈ cutsL l, c ∈ C) → cov cmp l x = false := by
        intro l hl9
        unfold cov
        rw [List.any_eq_false]
        intro s hs9
        unfold inS
        have hm : s.fr ∈ cutsL l := List.mem_flatMap.2 ⟨s, hs9, by simp [cutsS]⟩
        have : ¬ cmp s.fr x ≤ 0 := fun h9 => by have := hin s.fr (hl9 _ hm) h9; cases this
        simp [this]
      rw [hz a ha, hz b hb, hf]; rfl
    | some c0 =>
      have h3 : C1 = C1.dropLast ++ [c0] := by
        obtain ⟨ys, rfl⟩ := List.getLast?_eq_some_iff.1 hl
        simp
      have hc0 : c0 ∈ C1 := List.mem_of_getLast? hl
      have hx0 := h1 c0 hc0
      rw [h3, List.foldl_append]
      simp only [List.foldl_cons, List.foldl_nil]
      rw [if_pos hx0]
      have hgr : ∀ c ∈ C1, cmp c c0 ≤ 0 := by
        intro c hc
        rw [h3] at hc
        have hp : C1.Pairwise (fun p q => cmp p q ≤ 0) := by rw [hC] at hs; exact (List.pairwise_append.1 hs).1
        rw [h3] at hp
        rcases List.mem_append.1 hc with hc | hc
        · exact (List.pairwise_append.1 hp).2.2 c hc c0 (by simp)
        · obtain rfl := List.mem_singleton.1 hc
          rw [h.self]; exact Int.le_refl _
      have hsame : ∀ l : List (Str α), (∀ c ∈ cutsL l, c ∈ C) → cov cmp l c0 = cov cmp l x := by
        intro l hl9
        have hany : ∀ s ∈ l, inS cmp s c0 = inS cmp s x := by
          intro s hs9
          have hm : s.fr ∈ cutsL l := List.mem_flatMap.2 ⟨s, hs9, by simp [cutsS]⟩
          unfold inS
          congr 1
          · rw [decide_eq_decide]
            exact ⟨fun h9 => h.trans _ _ _ h9 hx0, fun h9 => hgr _ (hin _ (hl9 _ hm) h9)⟩
          · cases ht : s.to with
            | none => rfl
            | some t =>
              have hm2 : t ∈ cutsL l := List.mem_flatMap.2 ⟨s, hs9, by simp [cutsS, ht]⟩
              simp only
              rw [decide_eq_decide]
              have e1 := h.anti c0 t
              have e2 := h.anti x t
              constructor
              · intro h9
                by_cases h8 : cmp t x ≤ 0
                · have := hgr _ (hin _ (hl9 _ hm2) h8); omega
                · omega
              · intro h9
                exact h.le_lt hx0 h9
        unfold cov
        clear hl9
        induction l with
        | nil => rfl
        | cons s l ih => rw [List.any_cons, List.any_cons, hany s (by simp), ih (fun q hq => hany q (by simp [hq]))]
      rw [hsame a ha, hsame b hb]
  refine key (C.dropWhile (fun c => decide (cmp c x ≤ 0))) (C.takeWhile (fun c => decide (cmp c x ≤ 0))) (List.takeWhile_append_dropWhile).symm (fun c hc => ?_) (fun c hc => ?_)
  · have := List.all_takeWhile (p := fun c => decide (cmp c x ≤ 0)) (l := C)
    rw [List.all_eq_true] at this
    simpa using this c hc
  · have hd : ∀ (l : List α), l.Pairwise (fun p q => cmp p q ≤ 0) → ∀ c ∈ l.dropWhile (fun c => decide (cmp c x ≤ 0)), ¬ cmp c x ≤ 0 := by
      intro l
      induction l with
      | nil => intro _ c hc; cases hc
      | cons y l ih =>
        intro hp c hc
        obtain ⟨p1, p2⟩ := List.pairwise_cons.1 hp
        by_cases hy : cmp y x ≤ 0
        · rw [List.dropWhile_cons_of_pos (by simpa using hy)] at hc
          exact ih p2 c hc
        · rw [List.dropWhile_cons_of_neg (by simpa using hy)] at hc
          rcases List.mem_cons.1 hc with rfl | hc
          · exact hy
          · exact fun h9 => hy (h.trans _ _ _ (p1 c hc) h9)
    exact hd C hs c hc
end
end Rg
end Go.Proofs.YtiogfdkdhfmamaaGreatDoor
namespace Go.Proofs.YtiogfdkdhfmamaaGreatDoor
namespace Rg
section
variable {α : Type} {cmp : α → α → Int} {ok : α → Prop}
theorem Lin.lt_lt (h : Lin cmp ok) {a b c : α} (h1 : cmp a b < 0) (h2 : cmp b c < 0) : cmp a c < 0 := h.lt_le h1 (by omega)
theorem valid_rest (h : Lin cmp ok) : ∀ {r : List (Str α)} {s : Str α}, Valid cmp (s :: r) → ∀ q ∈ r, ∃ t, s.to = some t ∧ cmp s.fr t < 0 ∧ cmp t q.fr < 0
  | [], _, _, q, hq => by cases hq
  | s2 :: r, s, hv, q, hq => by
    obtain ⟨t, h1, h2⟩ := hv.2.1 s2 (by simp)
    have h3 := hv.1 t h1
    rcases List.mem_cons.1 hq with rfl | hq
    · exact ⟨t, h1, h3, h2⟩
    · obtain ⟨t2, h4, h5, h6⟩ := valid_rest h hv.2.2 q hq
      exact ⟨t, h1, h3, h.lt_lt h2 (h.lt_lt h5 h6)⟩
theorem cov_cons (s : Str α) (r : List (Str α)) (x : α) : cov cmp (s :: r) x = (inS cmp s x || cov cmp r x) := by simp [cov]
theorem cov_false {l : List (Str α)} {x : α} (h : ∀ q ∈ l, ¬ cmp q.fr x ≤ 0) : cov cmp l x = false := by
  unfold cov
  rw [List.any_eq_false]
  intro q hq
  unfold inS
  simp [h q hq]
theorem cov_ahead (h : Lin cmp ok) {s : Str α} {r : List (Str α)} (hv : Valid cmp (s :: r)) {x : α} (hx : cmp x s.fr < 0) : cov cmp (s :: r) x = false := by
  refine cov_false fun q hq => ?_
  have h1 := h.anti x q.fr
  rcases List.mem_cons.1 hq with rfl | hq
  · omega
  · obtain ⟨t, _, h2, h3⟩ := valid_rest h hv q hq
    have := h.lt_lt hx (h.lt_lt h2 h3)
    omega
theorem cov_in {s : Str α} {r : List (Str α)} {x : α} (h1 : cmp s.fr x ≤ 0) (h2 : ∀ t, s.to = some t → cmp x t < 0) : cov cmp (s :: r) x = true := by
  rw [cov_cons]
  have : inS cmp s x = true := by
    unfold inS
    cases ht : s.to with
    | none => simp [h1]
    | some t => simp [h1, h2 t ht]
  rw [this]; rfl
theorem rest_ahead (h : Lin cmp ok) {s : Str α} {r : List (Str α)} (hv : Valid cmp (s :: r)) {t x : α} (ht : s.to = some t) (hx : cmp x t ≤ 0) : cov cmp r x = false := by
  refine cov_false fun q hq => ?_
  obtain ⟨t', h1, _, h3⟩ := valid_rest h hv q hq
  rw [ht] at h1
  injection h1 with h1
  subst h1
  have h4 := h.le_lt hx h3
  have h5 := h.anti x q.fr
  omega
theorem cov_rest (_h : Lin cmp ok) {s : Str α} {r : List (Str α)} {t x : α} (ht : s.to = some t) (hx : ¬ cmp x t < 0) : cov cmp (s :: r) x = cov cmp r x := by
  rw [cov_cons]
  have : inS cmp s x = false := by
    unfold inS
    rw [ht]
    simp [hx]
  rw [this]; rfl
/-- the end of a first stretch is not covered -/
theorem cov_end (h : Lin cmp ok) {s : Str α} {r : List (Str α)} (hv : Valid cmp (s :: r)) {t : α} (ht : s.to = some t) : cov cmp (s :: r) t = false := by
  rw [cov_rest h ht (by rw [h.self]; omega)]
  exact rest_ahead h hv ht (by rw [h.self]; exact Int.le_refl _)
theorem valid_unique (h : Lin cmp ok) : ∀ {l l' : List (Str α)}, Valid cmp l → Valid cmp l' → (∀ c ∈ cutsL l, ok c) → (∀ c ∈ cutsL l', ok c) → (∀ x, ok x → cov cmp l x = cov cmp l' x) → l = l'
  | [], [], _, _, _, _, _ => rfl
  | [], s' :: r', _, hv', _, hk', hc => by
    have h1 := hc s'.fr (hk' _ (by simp [cutsL, cutsS]))
    rw [cov_in (by rw [h.self]; exact Int.le_refl _) (fun t ht => hv'.1 t ht)] at h1
    cases h1
  | s :: r, [], hv, _, hk, _, hc => by
    have h1 := hc s.fr (hk _ (by simp [cutsL, cutsS]))
    rw [cov_in (by rw [h.self]; exact Int.le_refl _) (fun t ht => hv.1 t ht)] at h1
    cases h1
  | s :: r, s' :: r', hv, hv', hk, hk', hc => by
    have okf : ok s.fr := hk _ (by simp [cutsL, cutsS])
    have okf' : ok s'.fr := hk' _ (by simp [cutsL, cutsS])
    have hfr : s.fr = s'.fr := by
      refine h.zero _ _ okf okf' ?_
      have h1 := h.anti s.fr s'.fr
      by_cases h2 : cmp s.fr s'.fr < 0
      · have h3 := hc s.fr okf
        rw [cov_in (by rw [h.self]; exact Int.le_refl _) (fun t ht => hv.1 t ht), cov_ahead h hv' h2] at h3
        cases h3
      · by_cases h4 : cmp s'.fr s.fr < 0
        · have h3 := hc s'.fr okf'
          rw [cov_ahead h hv h4, cov_in (by rw [h.self]; exact Int.le_refl _) (fun t ht => hv'.1 t ht)] at h3
          cases h3
        · omega
    obtain ⟨fr, to⟩ := s
    obtain ⟨fr', to'⟩ := s'
    simp only at hfr
    subst hfr
    have hr0 : ∀ {fr : α} {r : List (Str α)}, Valid cmp (⟨fr, none⟩ :: r) → r = [] := by
      intro fr r hv
      cases r with
      | nil => rfl
      | cons q r => obtain ⟨t, h1, _⟩ := hv.2.1 q (by simp); cases h1
    cases to with
    | none =>
      cases to' with
      | none => rw [hr0 hv, hr0 hv']
      | some t' =>
        exfalso
        have okt : ok t' := hk' _ (by simp [cutsL, cutsS])
        have h1 := hc t' okt
        rw [cov_end h hv' rfl, cov_in (s := ⟨fr, none⟩) (by have := hv'.1 t' rfl; simp only at this; simp only; omega) (fun t ht => by cases ht)] at h1
        cases h1
    | some t =>
      have okt : ok t := hk _ (by simp [cutsL, cutsS])
      have hft : cmp fr t < 0 := hv.1 t rfl
      cases to' with
      | none =>
        exfalso
        have h1 := hc t okt
        rw [cov_end h hv rfl, cov_in (s := ⟨fr, none⟩) (by simp only; omega) (fun t ht => by cases ht)] at h1
        cases h1
      | some t' =>
        have okt' : ok t' := hk' _ (by simp [cutsL, cutsS])
        have hft' : cmp fr t' < 0 := hv'.1 t' rfl
        have htt : t = t' := by
          refine h.zero _ _ okt okt' ?_
          have h1 := h.anti t t'
          by_cases h2 : cmp t t' < 0
          · have h3 := hc t okt
            rw [cov_end h hv rfl, cov_in (s := ⟨fr, some t'⟩) (by simp only; omega) (fun u hu => by cases hu; exact h2)] at h3
            cases h3
          · by_cases h4 : cmp t' t < 0
            · have h3 := hc t' okt'
              rw [cov_end h hv' rfl, cov_in (s := ⟨fr, some t⟩) (by simp only; omega) (fun u hu => by cases hu; exact h4)] at h3
              cases h3
            · omega
        subst htt
        have ih := valid_unique h hv.2.2 hv'.2.2 (fun c hc9 => hk c (by simp only [cutsL, List.flatMap_cons]; exact List.mem_append_right _ hc9)) (fun c hc9 => hk' c (by simp only [cutsL, List.flatMap_cons]; exact List.mem_append_right _ hc9)) (fun x hx => by
          by_cases h5 : cmp x t < 0
          · rw [rest_ahead h hv rfl (by omega), rest_ahead h hv' rfl (by omega)]
          · have h6 := hc x hx
            rw [cov_rest h rfl h5, cov_rest h rfl h5] at h6
            exact h6)
        rw [ih]
/-- two ranges put together -/
theorem comb_valid (h : Lin cmp ok) {f : Bool → Bool → Bool} (hf : f false false = false) {a b : List (Str α)} {C : List α} (hs : C.Pairwise (fun p q => cmp p q ≤ 0)) (hok : ∀ c ∈ C, ok c) (ha : ∀ c ∈ cutsL a, c ∈ C) (hb : ∀ c ∈ cutsL b, c ∈ C) :
    Valid cmp (comb (fun c => f (cov cmp a c) (cov cmp b c)) C).1 ∧ (∀ c ∈ cutsL (comb (fun c => f (cov cmp a c) (cov cmp b c)) C).1, c ∈ C) ∧ ∀ x, cov cmp (comb (fun c => f (cov cmp a c) (cov cmp b c)) C).1 x = f (cov cmp a x) (cov cmp b x) := by
  have hi := comb_inv h (g := fun c => f (cov cmp a c) (cov cmp b c)) hs hok
  refine ⟨hi.valid, fun c hc => ?_, fun x => (hi.cov x).trans (gAt_is h hf hs ha hb x)⟩
  obtain ⟨s, h1, h2⟩ := List.mem_flatMap.1 hc
  have h3 := hi.sub s h1
  rcases List.mem_cons.1 h2 with rfl | h2
  · exact h3.1
  · exact h3.2 c (by simpa using h2)
end
end Rg
end Go.Proofs.YtiogfdkdhfmamaaGreatDoor
namespace Go.Proofs.YtiogfdkdhfmamaaGreatDoor
open Go.RowKit
set_option maxHeartbeats 2000000 in
theorem slicesEqual_strings (is is' : List ByteArray) (a a' : Option Addr) (c c' : Nat) (w : World)
    (s1 : Sl w (.slice a is.length c) is.length (strs is)) (s2 : Sl w (.slice a' is'.length c') is'.length (strs is')) :
    Calls Tryz.prog 36 #[.slice a is.length c, .slice a' is'.length c'] w fun e w' => e = .returned (.bool (decide (is = is'))) ∧ Below w.heap.size w w' := by
  have hl1 := s1.len63
  have hl2 := s2.len63
  by_cases hl : is.length = is'.length
  · have hne : ((is.length : Int) != (is'.length : Int)) = false := by simp [hl]
    have HL := Lib.hid hl
    have hl' : is.length ≤ is'.length := by omega
    clear hl
    go_enter Tryz.func36, Tryz.ntmps36
    go_wp2
    go_loopw [13] (fun i wr => ∃ k : Nat, k ≤ is.length ∧ i = .int .i64 k ∧ Hid (is.take k = is'.take k) ∧ Below w.heap.size w wr) (fun i _ => is.length - (intOf i).toNat)
    case atStart => exact ⟨0, by omega, rfl, rfl, Below.refl _ _⟩
    case round =>
      obtain ⟨k, hk, rfl, HC, hb⟩ := hrel
      by_cases hlt : k < is.length
      · obtain ⟨b, o, rfl, e0⟩ := (s1.ext hb).addr (strs_get hlt)
        have hlt' : k < is'.length := by omega
        obtain ⟨b', o', rfl, f0⟩ := (s2.ext hb).addr (strs_get hlt')
        have HE : Hid (is[k] = is'[k] → is.take (k + 1) = is'.take (k + 1)) := by
          have : is[k] = is'[k] → is.take (k + 1) = is'.take (k + 1) := fun h => by
            rw [List.take_succ_eq_append_getElem hlt, List.take_succ_eq_append_getElem hlt', HC.out, h]
          exact this
        have HN : Hid (is[k] ≠ is'[k] → is ≠ is') := by
          have : is[k] ≠ is'[k] → is ≠ is' := fun h e => h (by subst e; rfl)
          exact this
        generalize is[k] = s at *
        generalize is'[k] = t at *
        by_cases hst : s = t
        · have HT := Lib.hid (HE.out hst)
          have hx : (s.toList == t.toList) = true := by simp [hst]
          clear hst
          go_wp2
          go_quiet (fail)
          go_wp2
          go_roundw
          case rel => exact ⟨k + 1, by omega, by go_num, HT, below_drewN hb _⟩
          case measure => simp [intOf]; omega
        · have HT := Lib.hid (HN.out hst)
          have hx : (s.toList == t.toList) = false := by
            rw [ByteArray.toList_eq, ByteArray.toList_eq, beq_eq_false_iff_ne]
            exact fun h => hst (bytes_ext h)
          clear hst
          go_wp2
          go_quiet (fail)
          go_wp2
          go_ret
          exact ⟨congrArg (fun b => Ending.returned (.bool b)) (decide_eq_false HT.out).symm, below_drewN hb _⟩
      · have HE : Hid (is = is') := by
          have := HC.out
          rw [List.take_of_length_le (by omega), List.take_of_length_le (by have := HL.out; omega)] at this
          exact this
        go_wp2
        go_ret
        exact ⟨congrArg (fun b => Ending.returned (.bool b)) (decide_eq_true HE.out).symm, hb⟩
  · have hne : ((is.length : Int) != (is'.length : Int)) = true := by simp; omega
    have HN : Hid (is ≠ is') := by
      have : is ≠ is' := fun e => hl (by rw [e])
      exact this
    clear hl
    go_enter Tryz.func36, Tryz.ntmps36
    go_wp2
    go_ret
    exact ⟨congrArg (fun b => Ending.returned (.bool b)) (decide_eq_false HN.out).symm, Below.refl _ _⟩
end Go.Proofs.YtiogfdkdhfmamaaGreatDoor
namespace Go.Proofs.YtiogfdkdhfmamaaGreatDoor
open Go.RowKit
def sameVer (x y : Ver) : Bool := decide (x.ma = y.ma) && decide (x.mi = y.mi) && decide (x.pa = y.pa) && decide (x.pre = y.pre)
set_option maxHeartbeats 4000000 in
theorem sameVersion_at (x y : Ver) (cs cs' : List Value) (w : World) (h : RepVer w x cs) (h' : RepVer w y cs') : Calls Tryz.prog 23 #[.agg cs.toArray, .agg cs'.toArray] w fun e w' => e = .returned (.bool (sameVer x y)) ∧ Below w.heap.size w w' := by
  obtain ⟨a, c, rfl, s1, h1⟩ := h
  obtain ⟨a', c', rfl, s2, h2⟩ := h'
  obtain ⟨ma, mi, pa, pre⟩ := x
  obtain ⟨ma', mi', pa', pre'⟩ := y
  simp only at s1 h1 s2 h2
  have HV : Hid (sameVer ⟨ma, mi, pa, pre⟩ ⟨ma', mi', pa', pre'⟩ = (decide (ma = ma') && decide (mi = mi') && decide (pa = pa') && decide (pre = pre'))) := rfl
  generalize sameVer ⟨ma, mi, pa, pre⟩ ⟨ma', mi', pa', pre'⟩ = N at *
  have hl1 := s1.len63
  have hl2 := s2.len63
  clear h1 h2
  go_enter Tryz.func23, Tryz.ntmps23
  go_wp2_with fail
  · refine (slicesEqual_strings pre pre' a a' c c' _ (s1.ext ?_) (s2.ext ?_)).mono ?_
    · go_grown
    · go_grown
    rintro e w5 ⟨rfl, hb5⟩
    have hbw5 : Below w.heap.size w w5 := Below.trans (by go_grown) (hb5.mono (by simp; omega))
    have hN : N = decide (pre = pre') := by rw [HV.out]; simp_all
    have HN := Lib.hid hN
    clear hN hb5 s1 s2 HV
    go_wp2
    go_ret
    exact ⟨congrArg (fun b => Ending.returned (.bool b)) HN.out.symm, hbw5⟩
  all_goals
    have hN : N = false := by rw [HV.out]; simp_all
    go_ret
    exact ⟨congrArg (fun b => Ending.returned (.bool b)) hN.symm, by go_grown⟩
end Go.Proofs.YtiogfdkdhfmamaaGreatDoor
