/- Missing of package event, and the reference's. -/
import Derived.Test.YtbbfdkjamjmbmaaDoorEvent7
namespace Go.Proofs.YtbbfdkjamjmbmaaDoor
open Go.RowKit
/-- the number that must come next -/
def nextAt (l : List Ev) : Nat → Int
  | 0 => 1
  | k + 1 => match l[k]?, l[k + 1]? with
    | some p, some e => if p.shard = e.shard then p.number + 1 else 1
    | _, _ => 1
abbrev Gp := ByteArray × Int × Int
def gapL (g : Gp) : List Value := [.string g.1, .int .i64 g.2.1, .int .i64 g.2.2]
theorem gapL_len (g : Gp) : (gapL g).length = 3 := rfl
def gapAt (l : List Ev) (k : Nat) : List Gp := match l[k]? with
  | some e => if nextAt l k < e.number then [(e.shard, nextAt l k, e.number - 1)] else []
  | none => []
def gapsTo (l : List Ev) : Nat → List Gp
  | 0 => []
  | k + 1 => gapsTo l k ++ gapAt l k
theorem gaps_yes {l : List Ev} {k : Nat} {s : Ev} {nx : Int} (h : l[k]? = some s) (hx : nextAt l k = nx) (hg : nx < s.number) : gapsTo l (k + 1) = gapsTo l k ++ [(s.shard, nx, s.number - 1)] := by
  simp only [gapsTo, gapAt, h, hx, if_pos hg]
theorem gaps_no {l : List Ev} {k : Nat} {s : Ev} {nx : Int} (h : l[k]? = some s) (hx : nextAt l k = nx) (hg : ¬ nx < s.number) : gapsTo l (k + 1) = gapsTo l k := by
  simp only [gapsTo, gapAt, h, hx, if_neg hg, List.append_nil]
def missL (l : List Ev) : List Gp := if checkL l = 0 then gapsTo l l.length else []
theorem ite8 (b : Bool) (x : Int) (h : (if b = true then (8 : Int) else x) = 0) : x = 0 := by cases b <;> simp_all
theorem scan_ok : ∀ (p : Option Ev) (l : List Ev), scanFrom p l = 0 → ∀ e ∈ l, checkE e = 0
  | _, [], _, e, he => by cases he
  | p, x :: l, h, e, he => by
    simp only [scanFrom] at h
    by_cases hx : checkE x = 0
    · rw [if_neg (by simp [hx])] at h
      have h' := ite8 _ _ h
      rcases List.mem_cons.1 he with rfl | he
      · exact hx
      · exact scan_ok _ l h' e he
    · rw [if_pos hx] at h; omega
theorem check_ok {l : List Ev} (h : checkL l = 0) : (∀ e ∈ l, checkE e = 0) ∧ l.length ≤ 20000 ∧ scanFrom none l = 0 := by
  unfold checkL at h
  split at h
  · cases h
  · split at h
    · omega
    · have h0 : scanFrom none l = 0 := by omega
      exact ⟨scan_ok none l h0, by omega, h0⟩
theorem number_ok {e : Ev} (h : checkE e = 0) : 1 ≤ e.number ∧ e.number ≤ 1000000000000 ∧ 0 ≤ e.time ∧ e.time ≤ 4000000000 := by
  unfold checkE at h
  split at h
  · cases h
  split at h
  · cases h
  split at h
  · cases h
  split at h
  · cases h
  · simp_all [withinB]
def MissPost (l : List Ev) (w : World) (e : Ending) (w' : World) : Prop :=
  ∃ a cap, e = .returned (.tuple #[.slice a (missL l).length cap, .int .i64 (checkL l)]) ∧ Sl w' (.slice a (missL l).length cap) (missL l).length ((missL l).flatMap gapL) ∧ Below w.heap.size w w'

end Go.Proofs.YtbbfdkjamjmbmaaDoor
