/- Plain: the tails of a binomial, and the ranks between which a quantile lies. No program stands in it. What Ranks returns. -/
import Derived.Test.YtiieckboccbhhaaGreatDoorB900
import Derived.Test.YtiieckboccbhhaaGreatDoorB936
import Derived.Test.YtiieckboccbhhaaGreatDoorB904
import Derived.Test.YtiieckboccbhhaaGreatDoorB902
import Derived.Test.YtiieckboccbhhaaGreatDoorProg
import Derived.Test.YtiieckboccbhhaaGreatDoorB903
import Derived.Test.YtiieckboccbhhaaGreatDoorB905
import Derived.Test.YtiieckboccbhhaaGreatDoorB906
import Derived.Test.YtiieckboccbhhaaGreatDoorB907
import Derived.Test.YtiieckboccbhhaaGreatDoorB908
import Derived.Test.YtiieckboccbhhaaGreatDoorB909
import Derived.Test.YtiieckboccbhhaaGreatDoorB912
import Derived.Test.YtiieckboccbhhaaGreatDoorB913
import Derived.Test.YtiieckboccbhhaaGreatDoorB914
import Derived.Test.YtiieckboccbhhaaGreatDoorB922
import Derived.Test.YtiieckboccbhhaaGreatDoorB925
import Derived.Test.YtiieckboccbhhaaGreatDoorB915
import Derived.Test.YtiieckboccbhhaaGreatDoorB916
import Derived.Test.YtiieckboccbhhaaGreatDoorB917
import Derived.Test.YtiieckboccbhhaaGreatDoorB918
import Derived.Test.YtiieckboccbhhaaGreatDoorB919
import Derived.Test.YtiieckboccbhhaaGreatDoorB920
import Derived.Test.YtiieckboccbhhaaGreatDoorB921
import Derived.Test.YtiieckboccbhhaaGreatDoorShelf
import Derived.Test.YtiieckboccbhhaaGreatDoorB923
import Derived.Test.YtiieckboccbhhaaGreatDoorB924
import Derived.Test.YtiieckboccbhhaaGreatDoorB932
import Derived.Test.YtiieckboccbhhaaGreatDoorB933
import Derived.Test.YtiieckboccbhhaaGreatDoorB934
namespace Go.Proofs.YtiieckboccbhhaaGreatDoor
namespace Nm
theorem lowV_ok (n m : Nat) {h : Rat} (h0 : 0 ≤ h) : ∀ j, tailQ n m (lowV n m h j) ≤ h
  | 0 => by show tailQ n m 0 ≤ h; rw [tailQ_zero]; exact h0
  | j + 1 => by
    unfold lowV
    by_cases e : tailQ n m (j + 1) ≤ h
    · rw [if_pos e]; exact e
    · rw [if_neg e]; exact lowV_ok n m h0 j
theorem highV_ok (n m : Nat) (g : Rat) : ∀ {d j : Nat}, g ≤ tailQ n m d → g ≤ tailQ n m (highV n m g d j)
  | d, 0, h => h
  | d, j + 1, h => by
    unfold highV
    refine highV_ok n m g ?_
    by_cases e : g ≤ tailQ n m (j + 1)
    · rw [if_pos e]; exact e
    · rw [if_neg e]; exact h
theorem highV_le (n m : Nat) (g : Rat) : ∀ {d j N : Nat}, d ≤ N → j ≤ N → highV n m g d j ≤ N
  | d, 0, N, h, _ => h
  | d, j + 1, N, h, hj => by
    unfold highV
    refine highV_le n m g ?_ (by omega)
    by_cases e : g ≤ tailQ n m (j + 1)
    · rw [if_pos e]; exact hj
    · rw [if_neg e]; exact h
theorem ranks_hold {n m : Nat} (hm : m ≤ 1000) {q : Rat} (h0 : 0 < q) (h1 : q < 1) : loR n m q < hiR n m q ∧ ¬ (tailQ n m (hiR n m q) - tailQ n m (loR n m q) < 1 - q) := by
  have hl := lowV_ok n m (h := q / 2) (by grind) n
  have hh := highV_ok n m (1 - q / 2) (d := n + 1) (j := n) (by rw [tailQ_all n m hm]; grind)
  refine ⟨?_, by unfold loR hiR; grind⟩
  rcases Nat.lt_or_ge (loR n m q) (hiR n m q) with h | h
  · exact h
  · exfalso
    have h2 := tailQ_mono n m h
    unfold loR hiR at h2
    grind
end Nm
end Go.Proofs.YtiieckboccbhhaaGreatDoor
namespace Go.Proofs.YtiieckboccbhhaaGreatDoor
open Go.RowKit
namespace Nm
theorem rn_cases (n m : Int) (a b : ByteArray) : (rnF n m a b ≠ 0 ∧ rnLo n m a b = 0 ∧ rnHi n m a b = 0) ∨ (rnF n m a b = 0 ∧ missF a b = 0 ∧ rnOk n m) := by
  by_cases h : rnF n m a b = 0
  · refine .inr ⟨h, ?_, ?_⟩
    · by_cases h1 : missF a b = 0
      · exact h1
      · rw [(rn_miss h1).1] at h; exact absurd h h1
    · by_cases h1 : missF a b = 0
      · by_cases h2 : rnOk n m
        · exact h2
        · rw [(rn_no h1 h2).1] at h; cases h
      · rw [(rn_miss h1).1] at h; exact absurd h h1
  · exact .inl ⟨h, if_neg h, if_neg h⟩
end Nm
end Go.Proofs.YtiieckboccbhhaaGreatDoor
