/- What was known, said of the joined log: plain ends for the law's walk. -/
import Derived.Test.YtbbfdkjamjmbmaaDoorKnM
namespace Go.Proofs.YtbbfdkjamjmbmaaDoor
theorem scan_adj : ∀ (p : Option Ev) (l : List Ev), scanFrom p l = 0 → l.Pairwise (fun a b => ordE a b < 0) ∧ (∀ q, p = some q → ∀ x ∈ l, ordE q x < 0)
  | _, [], _ => ⟨List.Pairwise.nil, fun _ _ x hx => by cases hx⟩
  | p, e :: r, h => by
    unfold scanFrom at h
    by_cases hx : checkE e = 0
    · rw [if_neg (by simp [hx])] at h
      have h2 : scanFrom (some e) r = 0 := ite_eight _ _ h
      obtain ⟨i1, i2⟩ := scan_adj (some e) r h2
      refine ⟨List.Pairwise.cons (i2 e rfl) i1, fun q hq x hx => ?_⟩
      subst hq
      have hqe : ordE q e < 0 := by
        by_cases h3 : 0 ≤ ordE q e
        · exfalso; simp [h3] at h
        · omega
      rcases List.mem_cons.1 hx with rfl | hx
      · exact hqe
      · exact ordE_lt_trans hqe (i2 e rfl x hx)
    · rw [if_pos hx] at h; exact absurd h hx
theorem checkL_isAsc {l : List Ev} (h : checkL l = 0) : Asc l := by
  unfold checkL at h
  by_cases h1 : 20000 < l.length
  · rw [if_pos h1] at h; cases h
  · rw [if_neg h1] at h
    by_cases h2 : scanFrom none l = 0
    · exact (scan_adj none l h2).1
    · rw [if_pos h2] at h; exact absurd h h2
theorem checkE_pos {e : Ev} (h : checkE e = 0) : 1 ≤ e.number ∧ 0 ≤ e.time := by
  unfold checkE at h
  by_cases h1 : nameB e.shard.data.toList = false
  · rw [if_pos h1] at h; cases h
  rw [if_neg h1] at h
  by_cases h2 : withinB e.number 1 1000000000000 = false
  · rw [if_pos h2] at h; cases h
  rw [if_neg h2] at h
  by_cases h3 : withinB e.kind 1 3 = false
  · rw [if_pos h3] at h; cases h
  rw [if_neg h3] at h
  by_cases h4 : withinB e.time 0 4000000000 = false
  · rw [if_pos h4] at h; cases h
  simp [withinB] at h2 h4
  omega
theorem known_in {l more M : List Ev} {L : List ByteArray} {e : Ev} (hj : JoinSpec l more M 0) (hb : brokL M = []) (hs : ∀ x ∈ M, x.shard ∈ L) (he : e ∈ M) (ht : e.time < knownR l L) : e ∈ l := by
  obtain ⟨h1, h2, h3, h4, h5⟩ := hj.ok
  have hc : ∀ x ∈ M, checkE x = 0 := checkL_all (checkL_of hj)
  refine known_there hj hb he (checkE_pos (hc e he)).2 ?_ (fun x hx => (checkE_pos (checkL_all h1 x hx)).1) (checkE_pos (hc e he)).1
  have := minL_le (fun x => kOf x 0 0 l) L 4000000000 e.shard (hs e he)
  unfold knownR at ht
  exact Int.lt_of_lt_of_le ht this
theorem known_later {l more M : List Ev} {L : List ByteArray} (hj : JoinSpec l more M 0) : knownR l L ≤ knownR M L := by
  obtain ⟨h1, h2, h3, h4, h5⟩ := hj.ok
  exact minL_mono (fun s => known_more (checkL_isAsc h1) hj s (fun x hx => (checkE_pos (checkL_all (checkL_of hj) x hx)).1)) L _ _ (Int.le_refl _)
end Go.Proofs.YtbbfdkjamjmbmaaDoor
