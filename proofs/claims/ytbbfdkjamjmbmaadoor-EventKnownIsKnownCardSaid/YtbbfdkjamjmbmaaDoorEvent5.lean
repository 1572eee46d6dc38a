/- The reference's shards. -/
import Derived.Test.YtbbfdkjamjmbmaaDoorEvent4
namespace Go.Proofs.YtbbfdkjamjmbmaaDoor
open Go.RowKit
theorem string_info : (Tryd.prog.info? 9).map (fun i => (i.zero, i.size, i.bytes)) = some (some (.string { data := #[] }), 1, 16) := by kernel_rfl
theorem shards_last (l : List Ev) : ∀ k, k < l.length → (shardsTo l (k + 1)).getLast? = (l[k]?).map Ev.shard
  | 0, h => by simp [shardsTo, newAt, List.getElem?_eq_getElem h]
  | k + 1, h => by
    have ih := shards_last l k (by omega)
    rw [shardsTo]
    have h1 := List.getElem?_eq_getElem h
    have h2 := List.getElem?_eq_getElem (show k < l.length by omega)
    simp only [newAt, h1, h2, Option.map_some] at *
    by_cases hq : l[k + 1].shard = l[k].shard
    · simp [hq, ih]
    · simp [hq]
theorem shards_pos (l : List Ev) (k : Nat) (h : k < l.length) : 0 < (shardsTo l (k + 1)).length := by
  have := shards_last l k h
  rw [List.getElem?_eq_getElem h] at this
  cases hq : shardsTo l (k + 1) with
  | nil => rw [hq] at this; simp at this
  | cons _ _ => simp
/-- what a slice that the call owns looks like, and reads as -/
theorem own_form {w : World} {base e size n : Nat} {v : Value} {xs : List Value} (h : w.ownsRow base e size v n xs) (hn : 0 < n) : ∃ g cap, v = .slice (some ⟨g, 0, none⟩) n cap ∧ g < w.heap.size ∧ ∀ i x, xs[i]? = some x → w.cell? ⟨g, i, none⟩ = some x := by
  obtain ⟨a, cap, rfl, _, _, _, hc⟩ := Sl.ofOwn h
  obtain ⟨h1, h2⟩ := h
  rcases h2 with ⟨h0, rfl⟩ | ⟨g, cap', cur, hv, hb, hg, _⟩
  · omega
  · cases hv
    refine ⟨g, cap, rfl, (Array.getElem?_eq_some_iff.1 hg).1, fun i x hx => ?_⟩
    obtain ⟨b, o, hbo, hcell⟩ := hc i x hx
    cases hbo
    simpa using hcell
def ShardsPost (l : List Ev) (w : World) (e : Ending) (w' : World) : Prop :=
  ∃ a cap, e = .returned (.slice a (shardsOf l).length cap) ∧ Sl w' (.slice a (shardsOf l).length cap) (shardsOf l).length ((shardsOf l).map Value.string) ∧ Below w.heap.size w w'
end Go.Proofs.YtbbfdkjamjmbmaaDoor
