/- Decimal numerals: plain mathematics. -/
import Derived.Test.YtkinapdfmgfdfaaNum
namespace Go.Proofs.Ytkinapdfmgfdfaa
namespace Nm
def digv (c : UInt8) : Nat := c.toNat - 48
/-- what digits mean -/
def decv (l : List UInt8) : Nat := l.foldl (fun a c => a * 10 + digv c) 0
theorem decv_nil : decv [] = 0 := rfl
theorem decv_foldl (m : List UInt8) : ∀ a, m.foldl (fun a c => a * 10 + digv c) a = a * 10 ^ m.length + decv m := by
  induction m with
  | nil => intro a; simp [decv]
  | cons c m ih =>
    intro a
    unfold decv
    simp only [List.foldl_cons, List.length_cons]
    rw [ih, ih (0 * 10 + digv c), Nat.pow_succ, Nat.zero_mul, Nat.zero_add, Nat.add_mul, Nat.mul_assoc, Nat.mul_comm 10]
    omega
theorem decv_append (l m : List UInt8) : decv (l ++ m) = decv l * 10 ^ m.length + decv m := by
  unfold decv; rw [List.foldl_append]; exact decv_foldl m _
theorem decv_snoc (l : List UInt8) (c : UInt8) : decv (l ++ [c]) = decv l * 10 + digv c := by rw [decv_append]; simp [decv]
/-- digits alone -/
def Digs (l : List UInt8) : Prop := ∀ c ∈ l, 48 ≤ c.toNat ∧ c.toNat ≤ 57
theorem Digs.take {l : List UInt8} (h : Digs l) (k : Nat) : Digs (l.take k) := fun c hc => h c (List.mem_of_mem_take hc)
theorem Digs.drop {l : List UInt8} (h : Digs l) (k : Nat) : Digs (l.drop k) := fun c hc => h c (List.mem_of_mem_drop hc)
theorem decv_lt {l : List UInt8} (h : Digs l) : decv l < 10 ^ l.length := by
  rw [← List.reverse_reverse l] at h ⊢
  generalize l.reverse = r at *
  induction r with
  | nil => simp [decv]
  | cons c r ih =>
    rw [List.reverse_cons] at h ⊢
    have h1 := ih (fun d hd => h d (by simp at hd ⊢; exact .inl hd))
    have h2 := h c (by simp)
    rw [decv_snoc, List.length_append, List.length_singleton, Nat.pow_succ]
    unfold digv
    omega
theorem decv_take_add (l : List UInt8) (i n : Nat) (h : i + n ≤ l.length) : decv (l.take (i + n)) = decv (l.take i) * 10 ^ n + decv ((l.drop i).take n) := by
  rw [List.take_add, decv_append, List.length_take, List.length_drop, Nat.min_eq_left (by omega)]
theorem pow10_le {k : Nat} (h : k ≤ 9) : 10 ^ k ≤ 1000000000 := by
  have := Nat.pow_le_pow_right (show 0 < 10 by decide) h
  simpa using this
/-- a number has no more words than digits -/
theorem wlen_dec {x k : Nat} (h : x < 10 ^ k) : wlen x ≤ k :=
  wlen_le (Nat.lt_of_lt_of_le h (Nat.pow_le_pow_left (by decide) k))
theorem read_step {P V A c o b d0 : Nat} (h : V + P * c = A * b + d0) : (V + P * ((c + o * b) % 4294967296)) + P * B * ((c + o * b) / 4294967296) = (A + P * o) * b + d0 := by
  have e : P * ((c + o * b) % 4294967296) + P * B * ((c + o * b) / 4294967296) = P * (c + o * b) := by
    rw [B_eq, Nat.mul_assoc, ← Nat.mul_add, Nat.mod_add_div]
  rw [Nat.mul_add] at e
  rw [Nat.add_mul, Nat.mul_assoc P o b]
  omega
end Nm
end Go.Proofs.Ytkinapdfmgfdfaa
