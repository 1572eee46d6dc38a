/- The reference's Bucket, and the law. -/
import Derived.Test.YtepgibhgjhjjaaaBucket
import Derived.Test.YtepgibhgjhjjaaaConcat
namespace Go.Proofs.Ytepgibhgjhjjaaa
open Go.RowKit
theorem ref_num (z : Nat) (hz : z < 18446744073709551616) : wrap64 (IntKind.u64.wrap ((IntKind.u64.wrap (IntKind.u64.wrap (IntKind.u64.wrap ((z : Int).tdiv 4294967296) * 100000) + IntKind.u64.wrap ((IntKind.u64.wrap ((z : Int).tmod 4294967296 * 100000)).tdiv 4294967296))).tdiv 4294967296)) = ((z * 100000 / 18446744073709551616 : Nat) : Int) := by
  rw [IntWalk.u64_quo (z : Int) 4294967296 (by omega), IntWalk.rem_in (z : Int) 4294967296 (by omega)]
  rw [IntWalk.u64_in ((z : Int) / 4294967296 * 100000) (by omega), IntWalk.u64_in ((z : Int) % 4294967296 * 100000) (by omega), IntWalk.u64_quo ((z : Int) % 4294967296 * 100000) 4294967296 (by omega), IntWalk.u64_in ((z : Int) / 4294967296 * 100000 + (z : Int) % 4294967296 * 100000 / 4294967296) (by omega), IntWalk.u64_quo _ _ (by omega), IntWalk.wrap64_in _ (by omega)]
  omega
set_option maxHeartbeats 1000000 in
theorem ref_bucket (a b : ByteArray) (ha : a.size ≤ 140737488351232) (hb : b.size ≤ 140737488351232) (w : World) :
    Calls Try.prog 7 #[.string a, .string b] w fun e w' => e = .returned (.int .i64 (bucketNum a b)) ∧ Below w.heap.size w w' := by
  go_enter Try.func7, Try.ntmps7
  have tok1 : True := trivial
  go_wp2_with (first | (have _t := tok1; refine wpList_bytes_of_string rfl _ 9 40 5 rfl Try.underlying9 Try.underlying40 Try.underlying5 _ rfl (by unfold maxLen; omega) ?_; intro cap1 w1 hsl1 hb1 hlt1; clear tok1) | (refine wpList_bytes_of_string rfl _ 9 40 5 rfl Try.underlying9 Try.underlying40 Try.underlying5 _ rfl (by unfold maxLen; omega) ?_; intro cap2 w2 hsl2 hb2 hlt2))
  simp only [World.size_alloc, hlt1] at hsl2 hb2 hlt2
  have hs1 : Sl w2 (.slice (some ⟨w.heap.size, 0, none⟩) a.size cap1) a.size (bcells a.data.toList) :=
    (hsl1.ext ((Below.refl _ _).alloc (Nat.le_refl _) _)).ext (by simpa [hlt1] using hb2)
  have hs3 : Sl w2 (.slice (some ⟨w.heap.size + 1, 0, none⟩) 1 1) 1 (bcells [47]) := by
    refine ⟨_, _, rfl, Nat.le_refl _, by decide, (fun h => by cases h), fun i x hx => ⟨_, _, rfl, ?_⟩⟩
    have hi : i = 0 := by have := (List.getElem?_eq_some_iff.1 hx).1; simp [bcells] at this; exact this
    subst hi
    rw [hb2.cell (p := ⟨w.heap.size + 1, 0 + 0, none⟩) (by simp), ← hx, ← hlt1]
    simp [bcells]
  have hext : Below w2.heap.size w2 (w2.alloc (Obj.cells #[Value.slice (some { block := w.heap.size, off := 0 }) a.size cap1, Value.slice (some { block := w.heap.size + 1, off := 0 }) 1 1, Value.slice (some { block := w.heap.size + 1 + 1, off := 0 }) b.size cap2] 40)) :=
    (Below.refl _ _).alloc (Nat.le_refl _) _
  have hbw : Below w.heap.size w w2 := hb1.trans ((((Below.refl _ _).alloc (by omega) _).trans (hb2.mono (by omega))))
  have hb3 := ext_trans hbw hext
  clear hb2 hb1 hbw
  rw [show w.heap.size + 1 + 1 + 1 = w2.heap.size by omega]
  refine (concat_three w2.heap.size 3 _ _ _ _ _ _ _ _ _ _ _ _ _ (by simp) (by simp) (by simp) (hs1.ext hext) (hs3.ext hext) (hsl2.ext hext) (by simp) rfl (by simp) (by omega)).mono ?_
  rintro e w4 ⟨v4, rfl, hsl4, hb4⟩
  have hb5 := ext_trans hb3 hb4
  generalize hL : a.data.toList ++ [47] ++ b.data.toList = L at *
  have hlen : L.length ≤ 9223372036854775807 := by rw [← hL]; simp; omega
  obtain ⟨a4, cap4, rfl, h41, h42, _, h43⟩ := hsl4
  have HR := Lib.hid h43
  have HLL := Lib.hid hL
  clear h43 hsl1 hlt1 hsl2 hlt2 hs1 hs3 hext hb3 hb4 hL h41 h42
  go_wp2
  go_loop [5, 19] (fun t i => ∃ k : Nat, k ≤ L.length ∧ i = .int .i64 k ∧ t = .int .u64 (fnv H0 (L.take k))) (fun _ i => L.length - (intOf i).toNat)
  case atStart => exact ⟨0, by omega, rfl, rfl⟩
  case round =>
    obtain ⟨k, hk, rfl, rfl⟩ := hrel
    have hlt := fnv_lt H0 (L.take k) H0_lt
    by_cases hkl : k < L.length
    · obtain ⟨b4, o4, rfl, hc4⟩ := HR.out k _ (bcells_get L k hkl)
      go_wp2
      go_round
      case rel =>
        refine ⟨k + 1, by omega, by go_num, ?_⟩
        rw [step_fnv _ hlt, List.take_succ_eq_append_getElem hkl, fnv_snoc]
      case measure => simp [intOf]; omega
    · have HT := Lib.hid (List.take_of_length_le (l := L) (i := k) (by omega))
      have hmix := mix_lt (fnv H0 L)
      go_wp2
      go_ret
      refine ⟨ret_int ?_, hb5⟩
      rw [HT.out] at hlt ⊢
      rw [stepA _ hlt, stepB _ (mixA_lt _), M64.xs _ (mixB_lt _)]
      have e := ref_num _ hmix
      unfold bucketNum
      rw [HLL.out]
      exact e

set_option maxRecDepth 100000 in
set_option maxHeartbeats 1000000 in
theorem buckets_law (a b : ByteArray) (ha : a.size ≤ 140737488351232) (hb : b.size ≤ 140737488351232) (w : World) :
    Calls Try.prog 3 #[.string a, .string b] w fun e w' => e = .returned (.bool true) ∧ Below w.heap.size w w' := by
  have hbk := bucketNum_lt a b
  go_enter Try.func3, Try.ntmps3
  go_wp2_with fail
  refine (bucket_any a b (by unfold maxLen; omega) (by unfold maxLen; omega) _).mono ?_
  rintro e w1 ⟨rfl, hb1⟩
  go_wp2_with fail
  refine (ref_bucket a b ha hb _).mono ?_
  rintro e w2 ⟨rfl, hb2⟩
  have hb3 := ext_trans hb1 hb2
  generalize bucketNum a b = n at *
  have e1 : ((n : Int) == (n : Int)) = true := by simp
  have e2 : decide ((0 : Int) ≤ (n : Int)) = true := by simp
  have E3 := Lib.hid hbk
  clear hbk
  go_wp2
  all_goals go_ret
  all_goals refine ⟨?_, hb3⟩
  all_goals exact congrArg (fun b => Ending.returned (.bool b)) (decide_eq_true (by have := E3.out; omega))
end Go.Proofs.Ytepgibhgjhjjaaa
