/- Buckets: the walks of value.Bucket, value.spread, bits.Mul64, slices.Grow, slices.Concat at bytes, and the reference's Bucket. -/
import Derived.Test.YtepgibhgjhjjaaaProg
import Derived.Test.YtepgibhgjhjjaaaMem
import Derived.Lib.Mul64
import Derived.Laws.Bits64b
namespace Go.Proofs.Ytepgibhgjhjjaaa
open Go.RowKit
namespace M64
theorem maskN (a : Nat) (ha : a < 18446744073709551616) : bits .and .u64 (a : Int) 4294967295 = ((a % 4294967296 : Nat) : Int) := by
  have h := bits_and_u64_nat a 4294967295 ha (by omega)
  have e : a &&& 4294967295 = a % 4294967296 := Nat.and_two_pow_sub_one_eq_mod a 32
  rw [e] at h
  exact h
theorem divN (a : Nat) : (a : Int) / 4294967296 = ((a / 4294967296 : Nat) : Int) := by omega
theorem mulN (a b : Nat) : (a : Int) * (b : Int) = ((a * b : Nat) : Int) := (Int.natCast_mul a b).symm
theorem addN (a b : Nat) : (a : Int) + (b : Int) = ((a + b : Nat) : Int) := (Int.natCast_add a b).symm
theorem wrapN (a : Nat) (ha : a < 18446744073709551616) : IntKind.u64.wrap (a : Int) = (a : Int) := by rw [IntKind.wrap_u64]; omega
theorem wrapM (a : Nat) : IntKind.u64.wrap (a : Int) = ((a % 18446744073709551616 : Nat) : Int) := by rw [IntKind.wrap_u64]; omega
theorem xs (x : Nat) (hx : x < 18446744073709551616) : bits .xor .u64 (x : Int) ((x : Int) / 8589934592) = ((x ^^^ x / 8589934592 : Nat) : Int) := xorShift_u64 x 8589934592 hx
end M64
set_option maxHeartbeats 1000000 in
theorem mul64_any (x y : Nat) (hx : x < 18446744073709551616) (hy : y < 18446744073709551616) (w : World) :
    Calls Try.prog 28 #[.int .u64 x, .int .u64 y] w fun e w' => e = .returned (.tuple #[.int .u64 ((x * y / 18446744073709551616 : Nat) : Int), .int .u64 ((x * y % 18446744073709551616 : Nat) : Int)]) ∧ w = w' := by
  obtain ⟨bd, bt, bw, hhi⟩ := Lib.mul64_hi x y hx hy
  have ba := Lib.half_mul_le (a := x / 4294967296) (b := y / 4294967296) (by omega) (by omega)
  have bb := Lib.half_mul_le (a := x / 4294967296) (b := y % 4294967296) (by omega) (by omega)
  have bc := Lib.half_mul_le (a := x % 4294967296) (b := y / 4294967296) (by omega) (by omega)
  have ba' : x / 4294967296 * (y / 4294967296) < 18446744073709551616 := by omega
  have bb' : x / 4294967296 * (y % 4294967296) < 18446744073709551616 := by omega
  have bc' : x % 4294967296 * (y / 4294967296) < 18446744073709551616 := by omega
  have bh1 : x / 4294967296 * (y / 4294967296) + (x / 4294967296 * (y % 4294967296) + x % 4294967296 * (y % 4294967296) / 4294967296) / 4294967296 < 18446744073709551616 := by omega
  have bh : x / 4294967296 * (y / 4294967296) + (x / 4294967296 * (y % 4294967296) + x % 4294967296 * (y % 4294967296) / 4294967296) / 4294967296 + ((x / 4294967296 * (y % 4294967296) + x % 4294967296 * (y % 4294967296) / 4294967296) % 4294967296 + x % 4294967296 * (y / 4294967296)) / 4294967296 < 18446744073709551616 := by omega
  go_enter Try.func28, Try.ntmps28
  go_wp2
  simp only [M64.maskN x hx, M64.maskN y hy, M64.divN, M64.mulN, M64.addN, M64.wrapN _ bd, M64.wrapN _ bb', M64.wrapN _ bt, M64.maskN _ bt, M64.wrapN _ bc', M64.wrapN _ bw, M64.wrapN _ ba', M64.wrapN _ bh1, M64.wrapN _ bh, M64.wrapM (x * y)]
  rw [hhi]
  go_ret2
  exact ⟨rfl, rfl⟩
def mixA (x : Nat) : Nat := (x ^^^ x / 8589934592) * 18397679294719823053 % 18446744073709551616
def mixB (x : Nat) : Nat := (x ^^^ x / 8589934592) * 14181476777654086739 % 18446744073709551616
def mixC (x : Nat) : Nat := x ^^^ x / 8589934592
def mix (x : Nat) : Nat := mixC (mixB (mixA x))
def bucketOf (x : Nat) : Nat := mix x * 100000 / 18446744073709551616
theorem mixA_lt (x : Nat) : mixA x < 18446744073709551616 := Nat.mod_lt _ (by decide)
theorem mixB_lt (x : Nat) : mixB x < 18446744073709551616 := Nat.mod_lt _ (by decide)
theorem mixC_lt (x : Nat) (hx : x < 18446744073709551616) : mixC x < 18446744073709551616 :=
  Nat.xor_lt_two_pow (n := 64) hx (Nat.lt_of_le_of_lt (Nat.div_le_self _ _) hx)
theorem mix_lt (x : Nat) : mix x < 18446744073709551616 := mixC_lt _ (mixB_lt _)
theorem bucket_lt (x : Nat) : bucketOf x < 100000 := by have := mix_lt x; unfold bucketOf; omega
theorem stepA (x : Nat) (hx : x < 18446744073709551616) : IntKind.u64.wrap (bits .xor .u64 (x : Int) ((x : Int) / 8589934592) * 18397679294719823053) = (mixA x : Int) := by
  rw [M64.xs x hx, show (18397679294719823053 : Int) = ((18397679294719823053 : Nat) : Int) from rfl, M64.mulN, M64.wrapM]; rfl
theorem stepB (x : Nat) (hx : x < 18446744073709551616) : IntKind.u64.wrap (bits .xor .u64 (x : Int) ((x : Int) / 8589934592) * 14181476777654086739) = (mixB x : Int) := by
  rw [M64.xs x hx, show (14181476777654086739 : Int) = ((14181476777654086739 : Nat) : Int) from rfl, M64.mulN, M64.wrapM]; rfl
set_option maxHeartbeats 1000000 in
theorem spread_any (x : Nat) (hx : x < 18446744073709551616) (w : World) :
    Calls Try.prog 13 #[.int .u64 x] w fun e w' => e = .returned (.int .i64 (bucketOf x)) ∧ w = w' := by
  have hb := bucket_lt x
  have hi : wrap64 ((mix x : Int) * 100000 / 18446744073709551616) = (bucketOf x : Int) := by
    unfold bucketOf at hb ⊢
    rw [IntWalk.wrap64_in _ (by omega)]; omega
  have HI := Lib.hid hi
  clear hi hb
  go_enter Try.func13, Try.ntmps13
  go_wp2_with fail
  rw [stepA x hx, stepB _ (mixA_lt x), M64.xs _ (mixB_lt _)]
  refine (mul64_any (mix x) 100000 (mix_lt x) (by omega) _).mono ?_
  rintro e w' ⟨rfl, rfl⟩
  go_wp2
  go_ret
  exact ⟨congrArg (fun z => Ending.returned (.int .i64 z)) HI.out, rfl⟩

def fnvStep (h : Nat) (c : UInt8) : Nat := (h ^^^ c.toNat) * 1099511628211 % 18446744073709551616
def fnv (h : Nat) (l : List UInt8) : Nat := l.foldl fnvStep h
theorem fnvStep_lt (h : Nat) (c : UInt8) : fnvStep h c < 18446744073709551616 := Nat.mod_lt _ (by decide)
theorem fnv_lt (h : Nat) (l : List UInt8) (hh : h < 18446744073709551616) : fnv h l < 18446744073709551616 := by
  unfold fnv
  induction l generalizing h with
  | nil => exact hh
  | cons c l ih => exact ih _ (fnvStep_lt _ _)
theorem fnv_append (h : Nat) (l m : List UInt8) : fnv h (l ++ m) = fnv (fnv h l) m := by simp only [fnv, List.foldl_append]
theorem fnv_snoc (h : Nat) (l : List UInt8) (c : UInt8) : fnv h (l ++ [c]) = fnvStep (fnv h l) c := by
  rw [fnv_append, fnv, List.foldl_cons, List.foldl_nil]
def pre (a b : ByteArray) : Nat → List UInt8
  | 0 => []
  | 1 => a.data.toList
  | 2 => a.data.toList ++ [47]
  | _ => a.data.toList ++ [47] ++ b.data.toList
def H0 : Nat := 14695981039346656037
theorem H0_lt : H0 < 18446744073709551616 := by decide
theorem step_fnv (h : Nat) (hh : h < 18446744073709551616) (c : UInt8) : IntKind.u64.wrap (bits .xor .u64 (h : Int) (IntKind.u64.wrap (c.toNat : Int)) * 1099511628211) = (fnvStep h c : Int) := by
  have hc : c.toNat < 18446744073709551616 := by have := c.toNat_lt; omega
  rw [M64.wrapN _ hc, bits_xor_u64_nat _ _ hh hc, show (1099511628211 : Int) = ((1099511628211 : Nat) : Int) from rfl, M64.mulN, M64.wrapM]; rfl
theorem pre_step (a b : ByteArray) (k : Nat) (hk : k < 3) : ∃ S : ByteArray, S.size ≤ max (max a.size b.size) 1 ∧ pre a b (k + 1) = pre a b k ++ S.data.toList ∧ #[Value.string a, Value.string { data := #[47] }, Value.string b][k]? = some (Value.string S) := by
  obtain rfl | rfl | rfl : k = 0 ∨ k = 1 ∨ k = 2 := by omega
  · exact ⟨a, by omega, by simp [pre], rfl⟩
  · exact ⟨{ data := #[47] }, by have : (ByteArray.mk #[47]).size = 1 := rfl; omega, by simp [pre], rfl⟩
  · exact ⟨b, by omega, by simp [pre], rfl⟩
/-- the bucket of a key -/
def bucketNum (a b : ByteArray) : Nat := bucketOf (fnv H0 (a.data.toList ++ [47] ++ b.data.toList))
theorem bucketNum_lt (a b : ByteArray) : bucketNum a b < 100000 := bucket_lt _
set_option maxHeartbeats 1000000 in
theorem bucket_any (a b : ByteArray) (ha : a.size ≤ maxLen) (hb : b.size ≤ maxLen) (w : World) :
    Calls Try.prog 6 #[.string a, .string b] w fun e w' => e = .returned (.int .i64 (bucketNum a b)) ∧ Below w.heap.size w w' := by
  unfold maxLen at ha hb
  go_enter Try.func6, Try.ntmps6
  go_wp2
  go_loop [5, 13] (fun t i => ∃ k : Nat, k ≤ 3 ∧ i = .int .i64 k ∧ t = .int .u64 (fnv H0 (pre a b k))) (fun _ i => 3 - (intOf i).toNat)
  case atStart => exact ⟨0, by omega, rfl, rfl⟩
  case round =>
    obtain ⟨k, hk, rfl, rfl⟩ := hrel
    have hlt := fnv_lt H0 (pre a b k) H0_lt
    by_cases h3 : k < 3
    · obtain ⟨S, hS, hpre, hcell⟩ := pre_step a b k h3
      have hc : (w.alloc (Obj.cells #[Value.string a, Value.string { data := #[47] }, Value.string b] 9)).cell? ⟨w.heap.size, k, none⟩ = some (.string S) := by
        simpa using hcell
      have HP := Lib.hid hpre
      clear hpre hcell
      have hS' : S.size ≤ 9223372036854775807 := by omega
      go_wp2
      go_loop [5, 19] (fun t i => ∃ j : Nat, j ≤ S.size ∧ i = .int .i64 j ∧ t = .int .u64 (fnv H0 (pre a b k ++ S.data.toList.take j))) (fun _ i => S.size - (intOf i).toNat)
      case atStart => exact ⟨0, by omega, rfl, by simp⟩
      case round =>
        obtain ⟨j, hj, rfl, rfl⟩ := hrel
        have hlt2 := fnv_lt H0 (pre a b k ++ S.data.toList.take j) H0_lt
        by_cases hjs : j < S.size
        · go_wp2
          go_round
          case rel =>
            refine ⟨j + 1, by omega, by go_num, ?_⟩
            rw [step_fnv _ hlt2, take_snoc _ _ hjs, ← List.append_assoc, fnv_snoc]
          case measure => simp [intOf]; omega
        · go_wp2
          go_round
          case rel =>
            refine ⟨k + 1, by omega, by go_num, ?_⟩
            rw [HP.out, List.take_of_length_le (by simp; omega)]
          case measure => simp [intOf]; omega
    · have hk3 : k = 3 := by omega
      subst hk3
      go_wp2_with (refine (spread_any _ hlt _).mono ?_; rintro e w' ⟨rfl, rfl⟩)
      go_ret
      exact ⟨rfl, by go_grown⟩
end Go.Proofs.Ytepgibhgjhjjaaa
