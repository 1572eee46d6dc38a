/- What is known of all shards is the least of what is known of each. -/
import Derived.Test.YtbbfdkjamjmbmaaDoorKnown3
import Derived.Test.YtbbfdkjamjmbmaaDoorKnL
namespace Go.Proofs.YtbbfdkjamjmbmaaDoor
theorem mn_le (a b : Int) : mn a b ≤ a ∧ mn a b ≤ b := by unfold mn; split <;> omega
theorem mn_mono {a b a' b' : Int} (h : a ≤ a') (k : b ≤ b') : mn a b ≤ mn a' b' := by unfold mn; split <;> split <;> omega
theorem minL_le_o (f : ByteArray → Int) : ∀ (L : List ByteArray) (o : Int), minL f o L ≤ o
  | [], o => by unfold minL; omega
  | s :: r, o => by unfold minL; exact Int.le_trans (minL_le_o f r _) (mn_le _ _).1
theorem minL_le (f : ByteArray → Int) : ∀ (L : List ByteArray) (o : Int) (s : ByteArray), s ∈ L → minL f o L ≤ f s
  | [], _, _, h => by cases h
  | x :: r, o, s, h => by
    unfold minL
    rcases List.mem_cons.1 h with rfl | h
    · exact Int.le_trans (minL_le_o f r _) (mn_le _ _).2
    · exact minL_le f r _ s h
theorem minL_mono {f g : ByteArray → Int} (h : ∀ s, f s ≤ g s) : ∀ (L : List ByteArray) (o o' : Int), o ≤ o' → minL f o L ≤ minL g o' L
  | [], _, _, ho => by unfold minL; exact ho
  | x :: r, o, o', ho => by unfold minL; exact minL_mono h r _ _ (mn_mono ho (h x))
theorem flat1 (L : List ByteArray) : L.flatMap (fun s => [Value.string s]) = L.map Value.string := by
  induction L with
  | nil => rfl
  | cons x L ih => rw [List.flatMap_cons, ih]; rfl
end Go.Proofs.YtbbfdkjamjmbmaaDoor
