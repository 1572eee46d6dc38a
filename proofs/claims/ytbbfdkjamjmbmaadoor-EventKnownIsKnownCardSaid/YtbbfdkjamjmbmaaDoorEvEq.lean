/- '==' and '!=' on events. -/
import Derived.Test.YtbbfdkjamjmbmaaDoorEvOrd
import Derived.Laws.StructEq
namespace Go.Proofs.YtbbfdkjamjmbmaaDoor
open Go.RowKit
theorem ev_ext {a b : Ev} (h0 : a.shard = b.shard) (h1 : a.number = b.number) (h2 : a.kind = b.kind) (h3 : a.time = b.time) (h4 : a.key = b.key) (h5 : a.name = b.name) (h6 : a.arm = b.arm) (h7 : a.n = b.n) : a = b := by
  cases a; cases b; simp_all
instance : DecidableEq Ev := fun a b => decidable_of_iff (a.shard = b.shard ∧ a.number = b.number ∧ a.kind = b.kind ∧ a.time = b.time ∧ a.key = b.key ∧ a.name = b.name ∧ a.arm = b.arm ∧ a.n = b.n)
  ⟨fun ⟨h0, h1, h2, h3, h4, h5, h6, h7⟩ => ev_ext h0 h1 h2 h3 h4 h5 h6 h7, fun h => by subst h; simp⟩
theorem bytes_beq (a b : ByteArray) : (a.toList == b.toList) = decide (a = b) := by
  rw [Bool.eq_iff_iff]; simp only [beq_iff_eq, decide_eq_true_eq, ByteArray.toList_eq]
  exact ⟨bytes_ext, fun h => by rw [h]⟩
theorem toList_inj {a b : ByteArray} (h : a.toList = b.toList) : a = b := bytes_ext (by rw [← ByteArray.toList_eq, ← ByteArray.toList_eq]; exact h)
set_option maxHeartbeats 2000000 in
set_option maxRecDepth 100000 in
theorem equal_ev (x y : Ev) (w : World) : (Op.equalIn 10000 29 (.agg (evC x)) (.agg (evC y))).run Tryd.prog w = .ok (decide (x = y)) w := by
  have e1 : (Op.equalIn 10000 29 (.agg (evC x)) (.agg (evC y))).run Tryd.prog w = .ok (decide (x = y)) w := by
    rw [run_equalIn_struct w 9999 29 _ _ (by kernel_rfl) (by kernel_rfl)]
    go_simp
    by_cases hxy : x = y
    · subst hxy; simp
    · rw [decide_eq_false hxy]
      split
      · split
        · split
          · split
            · split
              · split
                · split
                  · split
                    · exact absurd (ev_ext (toList_inj ‹_›) ‹_› ‹_› ‹_› (toList_inj ‹x.key.toList = _›) (toList_inj ‹x.name.toList = _›) ‹_› ‹_›) hxy
                    · rfl
                  · rfl
                · rfl
              · rfl
            · rfl
          · rfl
        · rfl
      · rfl
  exact e1
theorem eql_ev (x y : Ev) (w : World) : (binOp .eql 29 (.agg (evC x)) (.agg (evC y))).run Tryd.prog w = .ok (.bool (decide (x = y))) w := by
  simp only [binOp]
  simp [Op.equal, Op.maxDepth, equal_ev x y w]
theorem neq_ev (x y : Ev) (w : World) : (binOp .neq 29 (.agg (evC x)) (.agg (evC y))).run Tryd.prog w = .ok (.bool (!decide (x = y))) w := by
  simp only [binOp]
  simp [Op.equal, Op.maxDepth, equal_ev x y w]
theorem guard_ev (op : BinOp) (a b : Operand) (x y : Ev) (w : World) : (eqGuard op 29 a b (.agg (evC x)) (.agg (evC y))).run Tryd.prog w = .ok () w :=
  run_eqGuard_agg w op _ a b _ _ (by kernel_rfl)
end Go.Proofs.YtbbfdkjamjmbmaaDoor
