/- What is known of a shard: plainly. -/
import Derived.Test.YtbbfdkjamjmbmaaDoorKnown1
import Derived.Test.YtbbfdkjamjmbmaaDoorJoinQ
namespace Go.Proofs.YtbbfdkjamjmbmaaDoor
/-- over the events of the shard -/
def kF : Int → Int → List Ev → Int
  | out, _, [] => out
  | out, n, e :: r => if e.number = n + 1 then kF (if e.kind = 3 then mx out e.time else out) (n + 1) r else out
theorem kOf_kF (s : ByteArray) : ∀ (l : List Ev) (out n : Int), kOf s out n l = kF out n (l.filter fun e => decide (e.shard = s))
  | [], _, _ => rfl
  | e :: r, out, n => by
    unfold kOf
    by_cases h : e.shard = s
    · rw [if_pos h, List.filter_cons_of_pos (by simp [h]), kF]
      by_cases h2 : e.number = n + 1
      · rw [if_pos h2, if_pos h2, kOf_kF s r]
      · rw [if_neg h2, if_neg h2]
    · rw [if_neg h, List.filter_cons_of_neg (by simp [h]), kOf_kF s r]
theorem mx_le (a b : Int) : a ≤ mx a b := by unfold mx; split <;> omega
theorem kF_ge : ∀ (l : List Ev) (out n : Int), out ≤ kF out n l
  | [], _, _ => by unfold kF; omega
  | e :: r, out, n => by
    unfold kF
    split
    · refine Int.le_trans ?_ (kF_ge r _ _)
      split
      · exact mx_le _ _
      · omega
    · omega
/-- a mark, and all numbers up to it -/
theorem kF_mark : ∀ (l : List Ev) (out n : Int), out < kF out n l → ∃ m ∈ l, m.kind = 3 ∧ m.time = kF out n l ∧ n < m.number ∧ ∀ i : Int, n < i → i ≤ m.number → ∃ e ∈ l, e.number = i
  | [], out, n, h => by unfold kF at h; omega
  | e :: r, out, n, h => by
    unfold kF at h ⊢
    by_cases h1 : e.number = n + 1
    · rw [if_pos h1] at h ⊢
      by_cases h2 : (if e.kind = 3 then mx out e.time else out) < kF (if e.kind = 3 then mx out e.time else out) (n + 1) r
      · obtain ⟨m, hm, k1, k2, k3, k4⟩ := kF_mark r _ _ h2
        refine ⟨m, by simp [hm], k1, k2, by omega, fun i hi hle => ?_⟩
        by_cases hi1 : i = n + 1
        · exact ⟨e, by simp, by omega⟩
        · obtain ⟨x, hx, hxi⟩ := k4 i (by omega) hle
          exact ⟨x, by simp [hx], hxi⟩
      · have hge := kF_ge r (if e.kind = 3 then mx out e.time else out) (n + 1)
        have heq : kF (if e.kind = 3 then mx out e.time else out) (n + 1) r = (if e.kind = 3 then mx out e.time else out) := by omega
        rw [heq] at h ⊢
        by_cases h3 : e.kind = 3
        · rw [if_pos h3] at h ⊢
          have h4 : mx out e.time = e.time := by unfold mx at h ⊢; split at h <;> simp_all
          exact ⟨e, by simp, h3, by rw [h4], by omega, fun i hi hle => ⟨e, by simp, by omega⟩⟩
        · rw [if_neg h3] at h; omega
    · rw [if_neg h1] at h; omega
/-- more events, more is known -/
theorem kF_mono : ∀ (F G : List Ev) (out out' n : Int), out ≤ out' → F.Pairwise (fun a b => a.number < b.number) → G.Pairwise (fun a b => a.number < b.number) → (∀ x ∈ F, x ∈ G) → (∀ x ∈ G, n < x.number) → kF out n F ≤ kF out' n G
  | [], G, out, out', n, ho, _, _, _, _ => by
    have := kF_ge G out' n
    show out ≤ kF out' n G
    omega
  | e :: r, [], out, out', n, ho, _, _, hs, _ => by have := hs e (by simp); cases this
  | e :: r, g :: G, out, out', n, ho, hF, hG, hs, hn => by
    obtain ⟨f1, f2⟩ := List.pairwise_cons.1 hF
    obtain ⟨g1, g2⟩ := List.pairwise_cons.1 hG
    have hge := kF_ge (g :: G) out' n
    by_cases h1 : e.number = n + 1
    · have heg : g = e := by
        rcases List.mem_cons.1 (hs e (by simp)) with h | h
        · exact h.symm
        · have := g1 e h; have := hn g (by simp); omega
      subst heg
      unfold kF
      rw [if_pos h1, if_pos h1]
      refine kF_mono r G _ _ _ ?_ f2 g2 (fun x hx => ?_) (fun x hx => by have := g1 x hx; omega)
      · split
        · unfold mx; split <;> split <;> omega
        · exact ho
      · rcases List.mem_cons.1 (hs x (by simp [hx])) with h | h
        · subst h; have := f1 x hx; omega
        · exact h
    · have : kF out n (e :: r) = out := by unfold kF; rw [if_neg h1]
      rw [this]; omega
end Go.Proofs.YtbbfdkjamjmbmaaDoor
