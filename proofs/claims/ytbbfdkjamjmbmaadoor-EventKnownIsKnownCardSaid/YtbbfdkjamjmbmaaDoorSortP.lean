/- Plain: exchanging, rotating and merging parts of an array. -/
import Derived.Sort.LotA
import Derived.Sort.Lot0
namespace Go.Proofs.YtbbfdkjamjmbmaaDoor
namespace St
open Go.Sort
variable {α : Type} [Inhabited α]
/-- n places from a on, exchanged with those from b on -/
def rangeSwap (d : Array α) (a b : Nat) : Nat → Array α
  | 0 => d
  | k + 1 => swp (rangeSwap d a b k) (a + k) (b + k)
theorem rangeSwap_size (d : Array α) (a b n : Nat) : (rangeSwap d a b n).size = d.size := by
  induction n with
  | zero => rfl
  | succ k ih => rw [rangeSwap, size_swp, ih]
theorem rangeSwap_get (d : Array α) {a b n : Nat} (hab : a + n ≤ b) (hb : b + n ≤ d.size) : ∀ k, k ≤ n → ∀ x, (rangeSwap d a b k)[x]! = if a ≤ x ∧ x < a + k then d[x - a + b]! else if b ≤ x ∧ x < b + k then d[x - b + a]! else d[x]!
  | 0, _, x => by
    rw [if_neg (by omega), if_neg (by omega)]; rfl
  | k + 1, hk, x => by
    have ih := rangeSwap_get d hab hb k (by omega)
    have hs := rangeSwap_size d a b k
    rw [rangeSwap]
    by_cases h1 : x = a + k
    · subst h1
      rw [swp_left _ _ _ (by omega) (by omega), ih, if_neg (by omega), if_neg (by omega), if_pos (by omega)]
      congr 1; omega
    · by_cases h2 : x = b + k
      · subst h2
        rw [swp_right _ _ _ (by omega), ih, if_neg (by omega), if_neg (by omega), if_neg (by omega), if_pos (by omega)]
        congr 1; omega
      · rw [swp_other _ _ _ _ h1 h2, ih]
        (repeat' split) <;> first | rfl | omega | (congr 1; omega)
theorem rangeSwap_perm (d : Array α) {a b n lo hi : Nat} (hlo : lo ≤ a) (hlb : lo ≤ b) (ha : a + n ≤ hi) (hhi : b + n ≤ hi) (hs : hi ≤ d.size) : ∀ k, k ≤ n → PermIn lo hi d (rangeSwap d a b k)
  | 0, _ => permIn_refl _ _ _
  | k + 1, hk => permIn_trans _ _ _ _ _ (rangeSwap_perm d hlo hlb ha hhi hs k (by omega)) (swp_permIn _ _ _ _ _ (by omega) (by omega) (by omega) (by omega) (by rw [rangeSwap_size]; exact hs))
/-- The places of [m - i, m + j), the later ones first. -/
def Rot (m i j : Nat) (d d' : Array α) : Prop := PermIn (m - i) (m + j) d d' ∧ ∀ x, d'[x]! = if m - i ≤ x ∧ x < m - i + j then d[x + i]! else if m - i + j ≤ x ∧ x < m + j then d[x - j]! else d[x]!
theorem rot_eq (d : Array α) {m i : Nat} (hi : i ≤ m) (hm : m + i ≤ d.size) : Rot m i i d (rangeSwap d (m - i) m i) := by
  refine ⟨rangeSwap_perm d (Nat.le_refl _) (by omega) (by omega) (by omega) hm i (Nat.le_refl _), fun x => ?_⟩
  rw [rangeSwap_get d (by omega) (by omega) i (Nat.le_refl _)]
  (repeat' split) <;> first | rfl | omega | (congr 1; omega)
theorem rot_more (d d' : Array α) {m i j : Nat} (hi : i ≤ m) (hji : j < i) (hm : m + j ≤ d.size) (h : Rot m (i - j) j (rangeSwap d (m - i) m j) d') : Rot m i j d d' := by
  obtain ⟨h1, h2⟩ := h
  have hp := rangeSwap_perm d (a := m - i) (b := m) (n := j) (lo := m - i) (hi := m + j) (Nat.le_refl _) (by omega) (by omega) (Nat.le_refl _) hm j (Nat.le_refl _)
  refine ⟨permIn_trans _ _ _ _ _ hp (permIn_mono _ _ _ _ _ _ (by omega) (Nat.le_refl _) (by rw [rangeSwap_size]; exact hm) h1), fun x => ?_⟩
  have g := rangeSwap_get d (a := m - i) (b := m) (n := j) (by omega) hm j (Nat.le_refl _)
  rw [h2, g, g, g]
  (repeat' split) <;> first | rfl | omega | (congr 1; omega)
theorem rot_less (d d' : Array α) {m i j : Nat} (hi : i ≤ m) (h0 : 0 < i) (hij : i < j) (hm : m + j ≤ d.size) (h : Rot m i (j - i) (rangeSwap d (m - i) (m + j - i) i) d') : Rot m i j d d' := by
  obtain ⟨h1, h2⟩ := h
  have hp := rangeSwap_perm d (a := m - i) (b := m + j - i) (n := i) (lo := m - i) (hi := m + j) (Nat.le_refl _) (by omega) (by omega) (by omega) hm i (Nat.le_refl _)
  refine ⟨permIn_trans _ _ _ _ _ hp (permIn_mono _ _ _ _ _ _ (Nat.le_refl _) (by omega) (by rw [rangeSwap_size]; exact hm) h1), fun x => ?_⟩
  have g := rangeSwap_get d (a := m - i) (b := m + j - i) (n := i) (by omega) (by omega) i (Nat.le_refl _)
  rw [h2, g, g, g]
  (repeat' split) <;> first | rfl | omega | (congr 1; omega)
end St
end Go.Proofs.YtbbfdkjamjmbmaaDoor
