/- To join logs has no order, and to join one twice makes no difference: plainly. -/
import Derived.Test.YtbbfdkjamjmbmaaDoorJoinC
namespace Go.Proofs.YtbbfdkjamjmbmaaDoor
/-- The shards of a list in order: each once, in order. -/
theorem asc_shard {M : List Ev} (h : Asc M) {i j : Nat} {x y : Ev} (hx : M[i]? = some x) (hy : M[j]? = some y) (hij : i < j) : cmpS x.shard y.shard ≤ 0 := by
  obtain ⟨h1, rfl⟩ := List.getElem?_eq_some_iff.1 hx
  obtain ⟨h2, rfl⟩ := List.getElem?_eq_some_iff.1 hy
  have := (ord_neg _ _).1 (List.pairwise_iff_getElem.1 h i j h1 h2 hij)
  omega
theorem shards_asc {M : List Ev} (h : Asc M) : ∀ k, k ≤ M.length → (shardsTo M k).Pairwise (fun a b => cmpS a b < 0) ∧ (∀ s, s ∈ shardsTo M k ↔ ∃ i x, i < k ∧ M[i]? = some x ∧ x.shard = s)
  | 0, _ => ⟨List.Pairwise.nil, fun s => ⟨(fun h => by cases h), fun ⟨i, x, hi, _⟩ => by omega⟩⟩
  | k + 1, hk => by
    obtain ⟨h1, h2⟩ := shards_asc h k (by omega)
    have hg := List.getElem?_eq_getElem (show k < M.length by omega)
    generalize M[k] = e at hg
    rw [shardsTo]
    by_cases hn : newAt M k = true
    · rw [if_pos hn, hg]
      simp only [Option.map_some, Option.toList_some]
      refine ⟨List.pairwise_append.2 ⟨h1, by simp, fun s hs t ht => ?_⟩, fun s => ?_⟩
      · simp only [List.mem_singleton] at ht
        subst ht
        obtain ⟨i, x, hi, hx, rfl⟩ := (h2 s).1 hs
        have hle := asc_shard h hx hg hi
        rcases Int.lt_or_eq_of_le hle with h3 | h3
        · exact h3
        · exfalso
          have e1 := cmpS_zero h3
          match k, hn, hi, hg with
          | 0, _, hi, _ => omega
          | k + 1, hn, hi, hg =>
            have hp := List.getElem?_eq_getElem (show k < M.length by omega)
            generalize M[k] = p at hp
            simp only [newAt, hg, hp, Option.map_some, decide_eq_true_eq] at hn
            apply hn
            have l2 : cmpS p.shard e.shard ≤ 0 := asc_shard h hp hg (by omega)
            have l1 : cmpS x.shard p.shard ≤ 0 := by
              by_cases hik : i = k
              · subst hik; rw [hp] at hx; cases hx; rw [cmpS_self]; omega
              · exact asc_shard h hx hp (by omega)
            rw [e1] at l1
            have a1 := cmpS_anti p.shard e.shard
            have : cmpS p.shard e.shard = 0 := by omega
            rw [cmpS_zero this]
      · rw [List.mem_append, h2]
        simp only [List.mem_singleton]
        constructor
        · rintro (⟨i, x, hi, hx, rfl⟩ | rfl)
          · exact ⟨i, x, by omega, hx, rfl⟩
          · exact ⟨k, e, by omega, hg, rfl⟩
        · rintro ⟨i, x, hi, hx, rfl⟩
          by_cases hik : i = k
          · subst hik; rw [hg] at hx; cases hx; exact .inr rfl
          · exact .inl ⟨i, x, by omega, hx, rfl⟩
    · rw [if_neg hn, List.append_nil]
      refine ⟨h1, fun s => ?_⟩
      rw [h2]
      constructor
      · rintro ⟨i, x, hi, hx, rfl⟩; exact ⟨i, x, by omega, hx, rfl⟩
      · rintro ⟨i, x, hi, hx, rfl⟩
        by_cases hik : i = k
        · subst hik
          rw [hg] at hx; cases hx
          match i, hn, hg with
          | 0, hn, _ => exact absurd rfl hn
          | k + 1, hn, hg =>
            have hp := List.getElem?_eq_getElem (show k < M.length by omega)
            generalize M[k] = p at hp
            simp only [newAt, hg, hp, Option.map_some, decide_eq_true_eq, Classical.not_not] at hn
            exact ⟨k, p, by omega, hp, by simpa using hn.symm⟩
        · exact ⟨i, x, by omega, hx, rfl⟩
/-- A list in strict order whose members are all in another one is not longer. -/
theorem asc_len {α : Type} {lt : α → α → Prop} (hirr : ∀ x, ¬ lt x x) (htr : ∀ x y z, lt x y → lt y z → lt x z) : ∀ {M N : List α}, M.Pairwise lt → N.Pairwise lt → (∀ x ∈ M, x ∈ N) → M.length ≤ N.length
  | [], _, _, _, _ => Nat.zero_le _
  | x :: M, [], _, _, h => by have := h x (by simp); cases this
  | x :: M, y :: N, h1, h2, h => by
    obtain ⟨a1, a2⟩ := List.pairwise_cons.1 h1
    obtain ⟨b1, b2⟩ := List.pairwise_cons.1 h2
    have hsub : ∀ z ∈ M, z ∈ N := fun z hz => by
      rcases List.mem_cons.1 (h z (by simp [hz])) with e | e
      · exfalso
        subst e
        rcases List.mem_cons.1 (h x (by simp)) with e | e
        · subst e; exact hirr _ (a1 _ hz)
        · exact hirr _ (htr _ _ _ (a1 _ hz) (b1 _ e))
      · exact e
    have := asc_len hirr htr a2 b2 hsub
    simp only [List.length_cons]; omega
theorem cmpS_lt_trans {a b c : ByteArray} (h : cmpS a b < 0) (k : cmpS b c < 0) : cmpS a c < 0 := by
  have h1 := @cmpS_trans a b c (by omega) (by omega)
  rcases Int.lt_or_eq_of_le h1 with h2 | h2
  · exact h2
  · have := cmpS_zero h2; subst this; rw [cmpS_anti] at k; omega
theorem small_sub {M N : List Ev} (hM : Asc M) (hN : Asc N) (h : ∀ x ∈ M, x ∈ N) (hs : ¬ (20000 < N.length ∨ 50 < (shardsOf N).length)) : ¬ (20000 < M.length ∨ 50 < (shardsOf M).length) := by
  have l1 : M.length ≤ N.length := asc_len (lt := fun a b => ordE a b < 0) (fun x => by rw [ordE_self]; omega) (fun x y z => ordE_lt_trans) hM hN h
  obtain ⟨p1, m1⟩ := shards_asc hM M.length (Nat.le_refl _)
  obtain ⟨p2, m2⟩ := shards_asc hN N.length (Nat.le_refl _)
  have l2 : (shardsTo M M.length).length ≤ (shardsTo N N.length).length := asc_len (lt := fun a b => cmpS a b < 0) (fun x => by rw [cmpS_self]; omega) (fun x y z => cmpS_lt_trans) p1 p2 (fun s hs => by
    obtain ⟨i, x, hi, hx, rfl⟩ := (m1 s).1 hs
    obtain ⟨j, hj, he⟩ := List.getElem_of_mem (h x (List.mem_of_getElem? hx))
    exact (m2 _).2 ⟨j, x, hj, by rw [List.getElem?_eq_getElem hj, he], rfl⟩)
  unfold shardsOf at *
  omega
/-- What a join that went well says. -/
theorem JoinSpec.ok {a b R : List Ev} (h : JoinSpec a b R 0) : checkL a = 0 ∧ checkL b = 0 ∧ Asc R ∧ (∀ x, x ∈ R ↔ x ∈ a ++ b) ∧ ¬ (20000 < R.length ∨ 50 < (shardsOf R).length) := by
  rcases h with ⟨h1, _, h2⟩ | ⟨_, h1, _, h2⟩ | ⟨_, _, _, _, h⟩ | ⟨h1, h2, M, h3, h4, ⟨_, _, h5⟩ | ⟨h5, rfl, _⟩⟩
  · exact absurd h2.symm h1
  · exact absurd h2.symm h1
  · cases h
  · cases h5
  · exact ⟨h1, h2, h3, h4, h5⟩
theorem JoinSpec.bad {a b R : List Ev} {F : Int} (h : JoinSpec a b R F) (hF : F ≠ 0) : R = [] := by
  rcases h with ⟨_, h, _⟩ | ⟨_, _, h, _⟩ | ⟨_, _, _, h, _⟩ | ⟨_, _, M, _, _, ⟨_, h, _⟩ | ⟨_, _, h⟩⟩
  · exact h
  · exact h
  · exact h
  · exact h
  · exact absurd h hF
theorem JoinSpec.mk {a b M R : List Ev} {F : Int} (h1 : checkL a = 0) (h2 : checkL b = 0) (h3 : Asc M) (h4 : ∀ x, x ∈ M ↔ x ∈ a ++ b) (h5 : ¬ (20000 < M.length ∨ 50 < (shardsOf M).length)) (h : JoinSpec a b R F) : R = M ∧ F = 0 :=
  h.unique (.inr (.inr (.inr ⟨h1, h2, M, h3, h4, .inr ⟨h5, rfl, rfl⟩⟩)))
theorem checkL_of {a b R : List Ev} (h : JoinSpec a b R 0) : checkL R = 0 := by
  obtain ⟨h1, h2, h3, h4, h5⟩ := h.ok
  rw [checkL_asc h3 (fun x hx => (List.mem_append.1 ((h4 x).1 hx)).elim (checkL_all h1 x) (checkL_all h2 x)), if_neg h5]
/-- the other way round -/
theorem join_swap {a b x y : List Ev} {f g : Int} (h : JoinSpec a b x f) (k : JoinSpec b a y g) (hf : f = 0) : g = 0 ∧ x = y := by
  subst hf
  obtain ⟨h1, h2, h3, h4, h5⟩ := h.ok
  obtain ⟨e1, e2⟩ := k.mk h2 h1 h3 (fun z => by rw [h4]; simp only [List.mem_append]; exact Or.comm) h5
  exact ⟨e2, e1.symm⟩
theorem join_again {a b x y : List Ev} {f : Int} (h : JoinSpec a b x 0) (k : JoinSpec x b y f) : f = 0 ∧ y = x := by
  obtain ⟨h1, h2, h3, h4, h5⟩ := h.ok
  obtain ⟨e1, e2⟩ := k.mk (checkL_of h) h2 h3 (fun z => by
    simp only [List.mem_append]
    exact ⟨.inl, fun hz => hz.elim id fun hz => (h4 z).2 (List.mem_append_right _ hz)⟩) h5
  exact ⟨e2, e1⟩
theorem join_part {a b c x left z : List Ev} {g : Int} (h : JoinSpec a b x 0) (hl : JoinSpec x c left 0) (hz : JoinSpec b c z g) : g = 0 := by
  obtain ⟨h1, h2, h3, h4, h5⟩ := h.ok
  obtain ⟨k1, k2, k3, k4, k5⟩ := hl.ok
  have hsub : ∀ y, y ∈ b ++ c → y ∈ left := fun y hy => (k4 y).2 ((List.mem_append.1 hy).elim (fun hb => List.mem_append_left _ ((h4 y).2 (List.mem_append_right _ hb))) (fun hc => List.mem_append_right _ hc))
  rcases hz with ⟨q, _⟩ | ⟨_, q, _⟩ | ⟨_, _, q, _⟩ | ⟨_, _, M, m1, m2, ⟨q, _⟩ | ⟨_, _, q⟩⟩
  · exact absurd h2 q
  · exact absurd k2 q
  · exact absurd (fun u hu v hv e => asc_noClash k3 u (hsub u hu) v (hsub v hv) e) q
  · exact absurd q (small_sub m1 k3 (fun y hy => hsub y ((m2 y).1 hy)) k5)
  · exact q
theorem join_assoc {a b c x left z right : List Ev} {f : Int} (h : JoinSpec a b x 0) (hl : JoinSpec x c left 0) (hz : JoinSpec b c z 0) (hr : JoinSpec a z right f) : f = 0 ∧ left = right := by
  obtain ⟨h1, h2, h3, h4, h5⟩ := h.ok
  obtain ⟨k1, k2, k3, k4, k5⟩ := hl.ok
  obtain ⟨z1, z2, z3, z4, z5⟩ := hz.ok
  obtain ⟨e1, e2⟩ := hr.mk h1 (checkL_of hz) k3 (fun y => by
    rw [k4]; simp only [List.mem_append]; rw [h4, z4]; simp only [List.mem_append]
    constructor
    · rintro ((q | q) | q)
      · exact .inl q
      · exact .inr (.inl q)
      · exact .inr (.inr q)
    · rintro (q | q | q)
      · exact .inl (.inl q)
      · exact .inl (.inr q)
      · exact .inr q) k5
  exact ⟨e2, e1.symm⟩
end Go.Proofs.YtbbfdkjamjmbmaaDoor
