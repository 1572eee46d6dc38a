/- small, shifted, lowered of package value. -/
import Derived.Test.YtkinapdfmgfdfaaBig4
import Derived.Laws.BitsAllLaws
namespace Go.Proofs.Ytkinapdfmgfdfaa
open Go.RowKit
namespace Nm
theorem or64 {r X : Nat} (hr : r < 4294967296) (hX : X < 4294967296) : bits BinOp.or IntKind.u64 ((r : Int) * 4294967296) (X : Int) = (r : Int) * 4294967296 + (X : Int) := by
  have h := u64_or_nat (4294967296 * r) X (by omega) (by omega)
  have h2 := Nat.two_pow_add_eq_or_of_lt (i := 32) (b := X) (by simpa using hX) r
  rw [show (2 : Nat) ^ 32 = 4294967296 by decide] at h2
  rw [← h2] at h
  rw [show ((r : Int) * 4294967296) = ((4294967296 * r : Nat) : Int) by omega, h]; omega
/-- a number of two words divided by a word -/
theorem div_word {r X n : Nat} (hr : r < n) (hX : X < 4294967296) : ∃ q r', r * 4294967296 + X = q * n + r' ∧ r' < n ∧ q < 4294967296 ∧
    ((r : Int) * 4294967296 + (X : Int)).tdiv (n : Int) = (q : Int) ∧ ((r : Int) * 4294967296 + (X : Int)).tmod (n : Int) = (r' : Int) ∧ ((r : Int) * 4294967296 + (X : Int)) / (n : Int) = (q : Int) ∧ ((r : Int) * 4294967296 + (X : Int)) % (n : Int) = (r' : Int) := by
  have hc : ((r : Int) * 4294967296 + (X : Int)) = ((r * 4294967296 + X : Nat) : Int) := by omega
  have hq : (r * 4294967296 + X) / n < 4294967296 := by
    rw [Nat.div_lt_iff_lt_mul (by omega)]
    have : (r + 1) * 4294967296 ≤ n * 4294967296 := Nat.mul_le_mul_right _ hr
    omega
  refine ⟨(r * 4294967296 + X) / n, (r * 4294967296 + X) % n, (Nat.div_add_mod' _ _).symm, Nat.mod_lt _ (by omega), hq, ?_, ?_, ?_, ?_⟩
  · rw [hc]; rfl
  · rw [hc]; rfl
  · rw [hc]; rfl
  · rw [hc]; rfl
theorem small_step {D V n r X q r' : Nat} (hV : D = V * n + r) (h : r * 4294967296 + X = q * n + r') : X + B * D = (q + B * V) * n + r' := by
  subst hV
  rw [B_eq, Nat.add_mul, Nat.mul_add, Nat.mul_assoc]
  omega
/-- a quotient, and a word -/
def SmallPost (w : World) (q r : Nat) (e : Ending) (w' : World) : Prop := ∃ v, e = .returned (.tuple #[v, .int .u32 (r : Int)]) ∧ N w' v q ∧ Below w.heap.size w w'
set_option maxHeartbeats 8000000 in
theorem small_at (x n : Nat) (v : Value) (w : World) (hx : N w v x) (hxl : wlen x ≤ 1000000000) (hn : 0 < n) (hn2 : n < 4294967296) : Calls Try.prog 48 #[v, .int .u32 (n : Int)] w (SmallPost w (x / n) (x % n)) := by
  obtain ⟨a, c, rfl, s1⟩ := hx.open_
  obtain ⟨p1, p2⟩ := sl_caps s1
  have HX := Lib.hid (digs_dg x)
  unfold wlen at hxl
  clear hx
  go_enter Try.func48, Try.ntmps48
  go_wp2_with (refine wpList_make_words rfl _ _ rfl (digs x).length rfl rfl ?_ ?_ ?_; rotate_left 2; intro W hO hB hsz)
  case refine_1 => go_num
  case refine_2 => omega
  clear hsz
  have HZ : Hid (val ((digs x).drop (digs x).length) = val ((List.replicate (digs x).length 0).drop (digs x).length) * n + 0) := by
    have : val ((digs x).drop (digs x).length) = val ((List.replicate (digs x).length 0).drop (digs x).length) * n + 0 := by simp [val]
    exact this
  go_loopw [7, 8] (fun rv iv wr => ∃ (k r : Nat) (out : List Nat), k ≤ (digs x).length ∧ iv = .int .i64 ((k : Int) - 1) ∧ rv = .int .u64 r ∧ r < n ∧ Hid (out.length = (digs x).length) ∧ Hid (Dg out) ∧ Hid (val ((digs x).drop k) = val (out.drop k) * n + r) ∧ Own wr w.heap.size out ∧ Below w.heap.size w wr) (fun _ iv _ => (intOf iv + 1).toNat)
  case atStart => exact ⟨(digs x).length, 0, List.replicate (digs x).length 0, Nat.le_refl _, rfl, rfl, hn, by have := @List.length_replicate Nat (digs x).length 0; exact this, Dg.zeros _, HZ, hO, hB⟩
  case round =>
    obtain ⟨k, r, out, hk, rfl, rfl, hr, HL, HDo, HV, hOk, hBk⟩ := hrel
    cases k with
    | zero =>
      have HF : Hid (val out = x / n ∧ r = x % n) := by
        have h1 := HV.out
        rw [List.drop_zero, List.drop_zero, val_digs] at h1
        have : val out = x / n ∧ r = x % n := by
          constructor
          · rw [h1, Nat.add_comm, Nat.add_mul_div_right _ _ hn, Nat.div_eq_of_lt hr, Nat.zero_add]
          · rw [h1, Nat.add_comm, Nat.add_mul_mod_self_right, Nat.mod_eq_of_lt hr]
        exact this
      clear HV
      go_wp2_with fail
      have hs := hOk.sl (c := (digs x).length) (by rw [HL.out]; omega) (by unfold maxLen; omega)
      have hT := trim_at out HDo.out _ _ hs
      rw [HL.out] at hT
      refine Calls.mono hT ?_
      rintro e w' ⟨v, rfl, hv, rfl⟩
      clear hT hs
      go_wp2
      go_ret2
      rw [← HF.out.1, ← HF.out.2]
      exact ⟨_, rfl, hv, hBk⟩
    | succ j =>
      have hlt : j < (digs x).length := by omega
      obtain ⟨b, o, rfl, e0⟩ := sl_addr (s1.ext hBk) (wcs_get hlt)
      have hX := HX.out.get hlt
      have hko : j < out.length := by have := HL.out; omega
      have o0 := hOk.cell hko
      have o1 := hOk.frozen j
      have HV1 := Lib.hid (val_drop (digs x) j hlt)
      rw [show (((j + 1 : Nat) : Int) - 1) = (j : Int) by omega]
      generalize (digs x)[j] = X at *
      rw [B_eq] at hX
      obtain ⟨q, r', hdv, hr', hq, t1, t2, t3, t4⟩ := div_word hr hX
      have HR : Hid (val ((digs x).drop j) = val ((out.set j q).drop j) * n + r') := by
        have : val ((digs x).drop j) = val ((out.set j q).drop j) * n + r' := by
          rw [HV1.out, drop_set out j q hko]
          exact small_step HV.out hdv
        exact this
      have hor := or64 (r := r) (X := X) (by omega) hX
      clear HV HV1 hdv
      go_wp2
      go_roundw
      case rel => exact ⟨j, r', out.set j q, by omega, rfl, rfl, hr', Hid.len_set HL _ _, Hid.dg_set HDo _ hq, HR, hOk.set' hko _ (by omega), hBk.setCell (Nat.le_refl _) _⟩
      case measure => simp [intOf]
end Nm
end Go.Proofs.Ytkinapdfmgfdfaa
