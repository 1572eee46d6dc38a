/- Plain: sorted blocks, merged two by two. -/
import Derived.Test.YtbbfdkjamjmbmaaDoorSortQ
namespace Go.Proofs.YtbbfdkjamjmbmaaDoor
namespace St
open Go.Sort
variable {α : Type} [Inhabited α] {lt : α → α → Bool}
omit [Inhabited α] in
theorem sorted_none [Inhabited α] {d : Array α} {a b : Nat} (h : b ≤ a + 1) : SortedIn lt a b d := fun x y h1 h2 h3 => by omega
theorem sorted_sub {d : Array α} {a b a' b' : Nat} (h : SortedIn lt a b d) (h1 : a ≤ a') (h2 : b' ≤ b) : SortedIn lt a' b' d := fun x y hx hxy hy => h x y (by omega) hxy (by omega)
theorem sorted_keep {d d' : Array α} {a b x y : Nat} (hp : PermIn a b d d') (h : y ≤ a ∨ b ≤ x) (hs : SortedIn lt x y d) : SortedIn lt x y d' := fun i j h1 h2 h3 => by
  rw [hp.2.1 i (by omega), hp.2.1 j (by omega)]; exact hs i j h1 h2 h3
/-- every block of bs places is sorted -/
def Blks (lt : α → α → Bool) (bs n : Nat) (d : Array α) : Prop := ∀ j, SortedIn lt (j * bs) (min ((j + 1) * bs) n) d
/-- q blocks of bs places are sorted, what ends at A -/
structure Ins (lt : α → α → Bool) (bs A : Nat) (d : Array α) : Prop where
  blk : ∃ q, A = q * bs ∧ ∀ j, j < q → SortedIn lt (j * bs) ((j + 1) * bs) d
theorem Ins.start (bs : Nat) (d : Array α) : Ins lt bs 0 d := ⟨0, by simp, fun j h => absurd h (Nat.not_lt_zero _)⟩
theorem Ins.step {bs A : Nat} {d d' : Array α} (h : Ins lt bs A d) (hp : PermIn A (A + bs) d d') (hs : SortedIn lt A (A + bs) d') : Ins lt bs (A + bs) d' := by
  obtain ⟨q, rfl, hq⟩ := h.blk
  refine ⟨q + 1, by rw [Nat.succ_mul], fun j hj => ?_⟩
  rcases Nat.lt_or_ge j q with h1 | h1
  · exact sorted_keep hp (Or.inl (Nat.mul_le_mul_right bs h1)) (hq j h1)
  · have : j = q := by omega
    subst this
    rw [Nat.succ_mul]; exact hs
theorem Ins.done {bs A n : Nat} {d d' : Array α} (h : Ins lt bs A d) (hn : n < A + bs) (hp : PermIn A n d d') (hs : SortedIn lt A n d') : Blks lt bs n d' := by
  obtain ⟨q, rfl, hq⟩ := h.blk
  intro j
  rcases Nat.lt_trichotomy j q with h1 | h1 | h1
  · exact sorted_sub (sorted_keep hp (Or.inl (Nat.mul_le_mul_right bs h1)) (hq j h1)) (Nat.le_refl _) (Nat.min_le_left _ _)
  · subst h1; exact sorted_sub hs (Nat.le_refl _) (Nat.min_le_right _ _)
  · have h2 : (q + 1) * bs ≤ j * bs := Nat.mul_le_mul_right bs h1
    rw [Nat.succ_mul] at h2
    exact sorted_none (Nat.le_trans (Nat.min_le_right _ _) (by omega))
/-- while blocks are merged two by two: A is reached -/
structure Mrg (lt : α → α → Bool) (bs A n : Nat) (d : Array α) : Prop where
  blk : ∃ q, A = q * (2 * bs) ∧ (∀ j, j < q → SortedIn lt (j * (2 * bs)) ((j + 1) * (2 * bs)) d) ∧ ∀ j, 2 * q ≤ j → SortedIn lt (j * bs) (min ((j + 1) * bs) n) d
theorem Mrg.start {bs n : Nat} {d : Array α} (h : Blks lt bs n d) : Mrg lt bs 0 n d := ⟨0, by simp, fun j h => absurd h (Nat.not_lt_zero _), fun j _ => h j⟩
theorem two_mul_mul (q bs : Nat) : 2 * q * bs = q * (2 * bs) := by rw [Nat.mul_comm 2 q, Nat.mul_assoc]
theorem Mrg.left {bs A n : Nat} {d : Array α} (h : Mrg lt bs A n d) : SortedIn lt A (min (A + bs) n) d := by
  obtain ⟨q, rfl, _, h2⟩ := h.blk
  have := h2 (2 * q) (Nat.le_refl _)
  rw [Nat.succ_mul (2 * q), two_mul_mul] at this
  exact this
theorem Mrg.right {bs A n : Nat} {d : Array α} (h : Mrg lt bs A n d) : SortedIn lt (A + bs) (min (A + 2 * bs) n) d := by
  obtain ⟨q, rfl, _, h2⟩ := h.blk
  have := h2 (2 * q + 1) (Nat.le_succ _)
  rw [Nat.succ_mul (2 * q + 1), Nat.succ_mul (2 * q), two_mul_mul] at this
  have e : q * (2 * bs) + bs + bs = q * (2 * bs) + 2 * bs := by omega
  rw [e] at this
  exact this
theorem Mrg.step {bs A n : Nat} {d d' : Array α} (h : Mrg lt bs A n d) (hp : PermIn A (A + 2 * bs) d d') (hs : SortedIn lt A (A + 2 * bs) d') : Mrg lt bs (A + 2 * bs) n d' := by
  obtain ⟨q, rfl, hq, h2⟩ := h.blk
  refine ⟨q + 1, by rw [Nat.succ_mul q], fun j hj => ?_, fun j hj => ?_⟩
  · rcases Nat.lt_or_ge j q with h1 | h1
    · exact sorted_keep hp (Or.inl (Nat.mul_le_mul_right _ h1)) (hq j h1)
    · have : j = q := by omega
      subst this
      rw [Nat.succ_mul j]; exact hs
  · refine sorted_keep hp (Or.inr ?_) (h2 j (by omega))
    have h3 : 2 * (q + 1) * bs ≤ j * bs := Nat.mul_le_mul_right bs hj
    rw [two_mul_mul, Nat.succ_mul q] at h3
    exact h3
theorem Mrg.done {bs A n : Nat} {d d' : Array α} (h : Mrg lt bs A n d) (hn : n < A + 2 * bs) (hp : PermIn A n d d') (hs : SortedIn lt A n d') : Blks lt (2 * bs) n d' := by
  obtain ⟨q, rfl, hq, h2⟩ := h.blk
  exact Ins.done ⟨q, rfl, hq⟩ hn hp hs
theorem Blks.all {bs n : Nat} {d : Array α} (h : Blks lt bs n d) (hn : n ≤ bs) : SortedIn lt 0 n d := by
  have := h 0
  rw [Nat.zero_mul, Nat.zero_add, Nat.one_mul, Nat.min_eq_right hn] at this
  exact this
end St
end Go.Proofs.YtbbfdkjamjmbmaaDoor
