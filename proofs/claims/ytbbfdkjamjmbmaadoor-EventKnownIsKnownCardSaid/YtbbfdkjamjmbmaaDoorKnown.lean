/- knownOf and known of the reference. -/
import Derived.Test.YtbbfdkjamjmbmaaDoorShards
namespace Go.Proofs.YtbbfdkjamjmbmaaDoor
open Go.RowKit
def mx (a b : Int) : Int := if a < b then b else a
def mn (a b : Int) : Int := if b < a then b else a
/-- what is known of a shard, from what was ahead -/
def kOf (s : ByteArray) : Int → Int → List Ev → Int
  | out, _, [] => out
  | out, n, e :: r => if e.shard = s then (if e.number = n + 1 then kOf s (if e.kind = 3 then mx out e.time else out) (n + 1) r else out) else kOf s out n r
theorem kOf_step (s : ByteArray) (out n : Int) {l : List Ev} {k : Nat} {e : Ev} (h : l[k]? = some e) : kOf s out n (l.drop k) = if e.shard = s then (if e.number = n + 1 then kOf s (if e.kind = 3 then mx out e.time else out) (n + 1) (l.drop (k + 1)) else out) else kOf s out n (l.drop (k + 1)) := by
  obtain ⟨hk, rfl⟩ := List.getElem?_eq_some_iff.1 h
  rw [List.drop_eq_getElem_cons hk]; rfl
theorem ne_toList {a b : ByteArray} (h : a ≠ b) : (a.toList == b.toList) = false := by
  simp only [beq_eq_false_iff_ne, ne_eq, ByteArray.toList_eq]; exact fun e => h (bytes_ext e)

end Go.Proofs.YtbbfdkjamjmbmaaDoor
