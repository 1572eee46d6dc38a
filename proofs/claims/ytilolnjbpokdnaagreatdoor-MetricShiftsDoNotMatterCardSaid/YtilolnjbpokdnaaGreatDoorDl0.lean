/- Declarations that the groups beneath lack. -/
import Derived.Test.YtilolnjbpokdnaaGreatDoorBq00
import Derived.Test.YtilolnjbpokdnaaGreatDoorBq01
import Derived.Test.YtilolnjbpokdnaaGreatDoorBq03
import Derived.Test.YtilolnjbpokdnaaGreatDoorBq04
import Derived.Test.YtilolnjbpokdnaaGreatDoorBq05
import Derived.Test.YtilolnjbpokdnaaGreatDoorBq06
import Derived.Test.YtilolnjbpokdnaaGreatDoorBq07
import Derived.Test.YtilolnjbpokdnaaGreatDoorBq08
import Derived.Test.YtilolnjbpokdnaaGreatDoorBq09
import Derived.Test.YtilolnjbpokdnaaGreatDoorBq10
import Derived.Test.YtilolnjbpokdnaaGreatDoorBq11
import Derived.Test.YtilolnjbpokdnaaGreatDoorBq12
import Derived.Test.YtilolnjbpokdnaaGreatDoorBq13
import Derived.Test.YtilolnjbpokdnaaGreatDoorBq14
import Derived.Test.YtilolnjbpokdnaaGreatDoorBq15
import Derived.Test.YtilolnjbpokdnaaGreatDoorBq16
import Derived.Test.YtilolnjbpokdnaaGreatDoorBq17
import Derived.Test.YtilolnjbpokdnaaGreatDoorBq18
import Derived.Test.YtilolnjbpokdnaaGreatDoorBq19
import Derived.Test.YtilolnjbpokdnaaGreatDoorBq20
import Derived.Test.YtilolnjbpokdnaaGreatDoorBq21
import Derived.Test.YtilolnjbpokdnaaGreatDoorBq22
import Derived.Test.YtilolnjbpokdnaaGreatDoorBq23
import Derived.Test.YtilolnjbpokdnaaGreatDoorBq24
import Derived.Test.YtilolnjbpokdnaaGreatDoorBq25
import Derived.Test.YtilolnjbpokdnaaGreatDoorBq26
import Derived.Test.YtilolnjbpokdnaaGreatDoorBq27
import Derived.Test.YtilolnjbpokdnaaGreatDoorBq28
import Derived.Test.YtilolnjbpokdnaaGreatDoorBq29
import Derived.Test.YtilolnjbpokdnaaGreatDoorBq37
import Derived.Test.YtilolnjbpokdnaaGreatDoorBq41
import Derived.Test.YtilolnjbpokdnaaGreatDoorBq49
import Derived.Test.YtilolnjbpokdnaaGreatDoorBq50
import Derived.Test.YtilolnjbpokdnaaGreatDoorBq51
import Derived.Test.YtilolnjbpokdnaaGreatDoorBq52
import Derived.Test.YtilolnjbpokdnaaGreatDoorBq53
import Derived.Test.YtilolnjbpokdnaaGreatDoorBq57
import Derived.Test.YtilolnjbpokdnaaGreatDoorBq58
import Derived.Test.YtilolnjbpokdnaaGreatDoorBq59
import Derived.ChangeArms
import Derived.DataReads
import Derived.SizedLaws
import Derived.Deep.RegionHeld3
namespace Go.Proofs.YtilolnjbpokdnaaGreatDoor
open Go.RowKit

/-- How long a slice that is read can be. -/
theorem slice_sized {H : Type} {enc : TypeId × Value → H} {P : Program} {W : World} {spare : Nat → Bool} {held : Bool} {ts : List TypeId} {ds : List (DataW H)} (hsz : (DataW.weightsEach P ts ds).all (· ≤ reachBytes) = true) {j : Nat}
    {t e : TypeId} {fuel : Nat} {cs : List Value} {x : DataW H × List MemPlace} (ht : P.underlying t = some (.slice e)) (hj : ts[j]? = some t) (hd : ds[j]? = some x.1) (h : DataW.trod enc P W 0 spare held fuel t cs = some x) {a : Option Addr} {n cap : Nat} (hcs : cs = [.slice a n cap]) : n * P.bytesOf e ≤ reachBytes := by
  rcases DataW.trod_slice ht h with ⟨rfl, _⟩ | ⟨a', len, cap', elems, rest, m, hn, rfl, hx, hb, hl, hm, hlen, hel', _⟩
  · cases hcs; simp
  · cases hcs
    rw [hx] at hd
    have := sized_slice hsz hj hd ht
    simp only [List.length_map, hlen] at this
    exact Nat.le_trans (Nat.mul_le_mul_right _ (Nat.le_add_right _ _)) this
end Go.Proofs.YtilolnjbpokdnaaGreatDoor

namespace Go.Proofs.YtilolnjbpokdnaaGreatDoor
open Go.RowKit
theorem flat_length {α : Type} {f : α → List Value} {sz : Nat} (hs : ∀ x, (f x).length = sz) (l : List α) : (l.flatMap f).length = l.length * sz := by
  induction l with
  | nil => simp
  | cons y l ih => rw [List.flatMap_cons, List.length_append, hs, ih, List.length_cons, Nat.add_mul]; omega
end Go.Proofs.YtilolnjbpokdnaaGreatDoor

namespace Go.Proofs.YtilolnjbpokdnaaGreatDoor
open Go.RowKit
namespace Nm
theorem m5L_append (m : M5) : ∀ a b : List PX, m5L m (a ++ b) = m5L (m5L m a) b
  | [], _ => rfl
  | p :: a, b => m5L_append (m5s m p) a b
def m5a (m n : M5) : M5 := ⟨m.x + n.x, m.y + n.y, m.xx + n.xx, m.yy + n.yy, m.xy + n.xy⟩
theorem m5a_zero (m : M5) : m5a m m5z = m := by
  obtain ⟨a, b, c, d, e⟩ := m
  simp [m5a, m5z]
theorem m5a_s (m n : M5) (p : PX) : m5s (m5a m n) p = m5a m (m5s n p) := by
  simp only [m5a, m5s, Int.add_assoc]
theorem m5L_a (m : M5) : ∀ (l : List PX) (n : M5), m5L (m5a m n) l = m5a m (m5L n l)
  | [], _ => rfl
  | p :: r, n => by
    show m5L (m5s (m5a m n) p) r = m5a m (m5L (m5s n p) r)
    rw [m5a_s, m5L_a m r]
theorem sums_add (a b : List PX) : m5L m5z (a ++ b) = m5a (m5L m5z a) (m5L m5z b) := by
  rw [m5L_append]
  have h := m5L_a (m5L m5z a) b m5z
  rw [m5a_zero] at h
  exact h
theorem sumF_parts {l : List PX} (h : sumF l = 0) : l.length ≤ 20000 ∧ badX l = false := by
  unfold sumF at h
  by_cases h1 : 20000 < l.length
  · rw [if_pos h1] at h; cases h
  · rw [if_neg h1] at h
    by_cases h2 : badX l = true
    · rw [if_pos h2] at h; cases h
    · exact ⟨by omega, by simpa using h2⟩
end Nm
end Go.Proofs.YtilolnjbpokdnaaGreatDoor

namespace Go.Proofs.YtilolnjbpokdnaaGreatDoor
open Go.RowKit
namespace Nm
theorem m5q_a (m n : M5) : m5q (m5a m n) = q5a (m5q m) (m5q n) := by
  simp only [m5q, m5a, q5a, Rat.intCast_add]
end Nm
end Go.Proofs.YtilolnjbpokdnaaGreatDoor

