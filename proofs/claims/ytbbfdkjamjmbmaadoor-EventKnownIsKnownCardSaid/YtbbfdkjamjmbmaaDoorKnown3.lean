/- known of the reference, Known of package event and of the reference. -/
import Derived.Test.YtbbfdkjamjmbmaaDoorKnown2
namespace Go.Proofs.YtbbfdkjamjmbmaaDoor
open Go.RowKit
def knownR (l : List Ev) (L : List ByteArray) : Int := minL (fun x => kOf x 0 0 l) 4000000000 L
theorem kOf_le (s : ByteArray) : ∀ (l : List Ev) (out n : Int), (∀ e ∈ l, checkE e = 0) → out ≤ 4000000000 → kOf s out n l ≤ 4000000000
  | [], _, _, _, h => h
  | e :: r, out, n, hc, h => by
    have ht := (number_ok (hc e (by simp))).2.2.2
    have hc' : ∀ x ∈ r, checkE x = 0 := fun x hx => hc x (by simp [hx])
    simp only [kOf]
    split
    · split
      · refine kOf_le s r _ _ hc' ?_
        split
        · unfold mx; split <;> omega
        · exact h
      · exact h
    · exact kOf_le s r _ _ hc' h
theorem known_same {l : List Ev} (h : checkL l = 0) (s : ByteArray) (r : List ByteArray) : knownE l (s :: r) = knownR l (s :: r) := by
  have hf : (fun x => byTo l x l.length) = fun x => kOf x 0 0 l := funext fun x => by_known h x
  have hle := kOf_le s l 0 0 (check_ok h).1 (by omega)
  show minL (fun x => byTo l x l.length) (byTo l s l.length) (s :: r) = minL (fun x => kOf x 0 0 l) 4000000000 (s :: r)
  rw [hf, by_known h s]
  simp only [minL]
  congr 1
  unfold mn
  by_cases hq : kOf s 0 0 l < 4000000000
  · rw [if_pos hq]; simp
  · rw [if_neg hq]; simp; omega
theorem checkSh_ok {L : List ByteArray} (h : checkSh L = 0) : L ≠ [] ∧ L.length ≤ 50 := by
  unfold checkSh at h
  split at h
  · cases h
  · split at h
    · cases h
    · refine ⟨?_, by omega⟩
      rintro rfl
      simp_all

def knownN (l : List Ev) (L : List ByteArray) : Int := if checkL l = 0 then (if checkSh L = 0 then knownR l L else 0) else 0
def knownF (l : List Ev) (L : List ByteArray) : Int := if checkL l = 0 then checkSh L else checkL l
def KnownPost (l : List Ev) (L : List ByteArray) (w : World) (e : Ending) (w' : World) : Prop :=
  e = .returned (.tuple #[.int .i64 (knownN l L), .int .i64 (knownF l L)]) ∧ Below w.heap.size w w'
theorem known_post {l : List Ev} {L : List ByteArray} {n f : Int} (h : knownN l L = n ∧ knownF l L = f) : Ending.returned (.tuple #[.int .i64 n, .int .i64 f]) = .returned (.tuple #[.int .i64 (knownN l L), .int .i64 (knownF l L)]) := by rw [h.1, h.2]

set_option maxRecDepth 100000 in
set_option maxHeartbeats 8000000 in
theorem event_Known (l : List Ev) (hok : ∀ e ∈ l, e.ok) (L : List ByteArray) (hsz : ∀ s ∈ L, s.size ≤ maxLen) (a a2 : Option Addr) (c c2 : Nat) (w : World)
    (hs : Sl w (.slice a l.length c) l.length (l.flatMap evL)) (hs2 : Sl w (.slice a2 L.length c2) L.length (L.map Value.string)) :
    Calls Tryd.prog 8 #[.slice a l.length c, .slice a2 L.length c2] w (KnownPost l L w) := by
  go_enter Tryd.func8, Tryd.ntmps8
  go_wp2_with fail
  refine (event_CheckLog l hok a c _ hs).mono ?_
  rintro e w1 ⟨rfl, hb1⟩
  by_cases hc : checkL l = 0
  · have hne : (checkL l != 0) = false := by simp [hc]
    obtain ⟨hck, hlen, _⟩ := check_ok hc
    have HC := Lib.hid hc
    have HCK := Lib.hid hck
    clear hc hck
    go_wp2_with fail
    refine (event_checkShards L hsz a2 c2 _ (hs2.ext hb1)).mono ?_
    rintro e w2 ⟨rfl, rfl⟩
    by_cases hc2 : checkSh L = 0
    · have hne2 : (checkSh L != 0) = false := by simp [hc2]
      obtain ⟨hnn, hl50⟩ := checkSh_ok hc2
      have HC2 := Lib.hid hc2
      have HNN := Lib.hid hnn
      clear hc2 hnn
      go_wp2_with fail
      obtain ⟨s0, r, hL⟩ := List.exists_cons_of_ne_nil HNN.out
      have HKE : Hid (knownE l L = knownR l L) := by
        have : knownE l L = knownR l L := by rw [hL]; exact known_same HC.out s0 r
        exact this
      have HLL := Lib.hid hL
      clear hL
      refine (event_known l hok HCK.out hlen s0 r L HLL.out hsz hl50 a a2 c c2 _ (hs.ext hb1) (hs2.ext hb1)).mono ?_
      rw [HKE.out]
      rintro e w3 ⟨rfl, hb3⟩
      have hb4 := ext_trans hb1 hb3
      have HP : Hid (knownN l L = knownR l L ∧ knownF l L = 0) := by
        have : knownN l L = knownR l L ∧ knownF l L = 0 := by unfold knownN knownF; simp [HC.out, HC2.out]
        exact this
      go_wp2
      go_ret2
      exact ⟨known_post HP.out, hb4⟩
    · have hne2 : (checkSh L != 0) = true := by simp [hc2]
      have HP : Hid (knownN l L = 0 ∧ knownF l L = checkSh L) := by
        have : knownN l L = 0 ∧ knownF l L = checkSh L := by unfold knownN knownF; simp [HC.out, hc2]
        exact this
      clear hc2
      go_wp2
      go_ret2
      exact ⟨known_post HP.out, hb1⟩
  · have hne : (checkL l != 0) = true := by simp [hc]
    have HP : Hid (knownN l L = 0 ∧ knownF l L = checkL l) := by
      have : knownN l L = 0 ∧ knownF l L = checkL l := by unfold knownN knownF; simp [hc]
      exact this
    clear hc
    go_wp2
    go_ret2
    exact ⟨known_post HP.out, hb1⟩

end Go.Proofs.YtbbfdkjamjmbmaaDoor
