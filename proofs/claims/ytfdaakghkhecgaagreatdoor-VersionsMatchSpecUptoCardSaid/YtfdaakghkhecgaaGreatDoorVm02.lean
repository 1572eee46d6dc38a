/- Versions: CheckVersion, CompareVersions, slices.Equal at strings, sameVersion. Versions that are read as data. Numbers as lists of words of 32 bits, the least one first: plain mathematics, no program stands in it. Decimal numerals: plain mathematics. The numeral of a number: plain mathematics. Plain: texts cut at a byte; numerals of at most 13 digits, read and written. No program stands in it. Plain: versions as texts: what is written is read back, and what is read was so written. No program stands in it. -/
import Derived.Test.YtfdaakghkhecgaaGreatDoorVm01
import Derived.Deep.RegionHeld3
import Derived.Deep.QuietTactic
import Derived.BigQuiet
import Derived.Test.YtfdaakghkhecgaaGreatDoorVm00
import Derived.Test.YtfdaakghkhecgaaGreatDoorProg
import Derived.Lib.Hide
import Derived.Lib.SplitLaws
import Derived.Lib.AtoiTie
import Derived.Lib.ItoaNum
namespace Go.Proofs.YtfdaakghkhecgaaGreatDoor
open Go.RowKit
structure Ver where
  ma : Int
  mi : Int
  pa : Int
  pre : List ByteArray
/-- four cells read as a version -/
def RepVer (w : World) (x : Ver) (cs : List Value) : Prop :=
  ∃ a c, cs = [.int .i64 x.ma, .int .i64 x.mi, .int .i64 x.pa, .slice a x.pre.length c] ∧ Sl w (.slice a x.pre.length c) x.pre.length (strs x.pre) ∧ ∀ s ∈ x.pre, s.size ≤ maxLen
theorem RepVer.ext {w w' : World} {x : Ver} {cs : List Value} (h : RepVer w x cs) (hb : Below w.heap.size w w') : RepVer w' x cs := by
  obtain ⟨a, c, h0, h1, h2⟩ := h; exact ⟨a, c, h0, h1.ext hb, h2⟩
def preOk (s : ByteArray) : Bool := decide (s.size ≤ 20) && preB s.data.toList && !(digsB s.data.toList && !wholeB s.data.toList)
def rngOk (x : Ver) : Bool := withinV x.ma 0 999999 && withinV x.mi 0 999999 && withinV x.pa 0 999999
def chkVer (x : Ver) : Int := if rngOk x = false then 1 else if 10 < x.pre.length then 2 else if x.pre.all preOk = true then 0 else 3
def cmpVer (x y : Ver) : Int :=
  let c := orI (cmpI x.ma y.ma) (orI (cmpI x.mi y.mi) (cmpI x.pa y.pa))
  if c ≠ 0 then c else if x.pre = [] then (if y.pre = [] then 0 else 1) else if y.pre = [] then -1 else cmpPs x.pre y.pre
theorem value_isPre_is (s : ByteArray) (hs : s.size ≤ maxLen) (b : Bool) (h : preB s.data.toList = b) (w : World) : Calls Tryz.prog 20 #[.string s] w fun e w' => e = .returned (.bool b) ∧ w = w' := by
  subst h; exact value_isPre s hs w
theorem value_allDigits_is (s : ByteArray) (hs : s.size ≤ maxLen) (b : Bool) (h : digsB s.data.toList = b) (w : World) : Calls Tryz.prog 21 #[.string s] w fun e w' => e = .returned (.bool b) ∧ w = w' := by
  subst h; exact value_allDigits s hs w
theorem value_whole_is (s : ByteArray) (hs : s.size ≤ maxLen) (b : Bool) (h : wholeB s.data.toList = b) (w : World) : Calls Tryz.prog 22 #[.string s] w fun e w' => e = .returned (.bool b) ∧ w = w' := by
  subst h; exact value_whole s hs w
theorem value_within_is (n : Int) (b : Bool) (h : withinV n 0 999999 = b) (w : World) : Calls Tryz.prog 19 #[.int .i64 n, .int .i64 0, .int .i64 999999] w fun e w' => e = .returned (.bool b) ∧ w = w' := by
  subst h; exact value_within n 0 999999 w
theorem rng_bad {x : Ver} (h : rngOk x = false) : chkVer x = 1 := by unfold chkVer; rw [if_pos h]
theorem rng_good {x : Ver} (h : rngOk x = true) : chkVer x = if 10 < x.pre.length then 2 else if x.pre.all preOk = true then 0 else 3 := by unfold chkVer; rw [if_neg (by simp [h])]
set_option maxHeartbeats 4000000 in
theorem checkVersion_at (x : Ver) (cs : List Value) (w : World) (h : RepVer w x cs) : Calls Tryz.prog 8 #[.agg cs.toArray] w fun e w' => e = .returned (.int .i64 (chkVer x)) ∧ Below w.heap.size w w' := by
  obtain ⟨a, c, rfl, s1, h1⟩ := h
  obtain ⟨ma, mi, pa, pre⟩ := x
  simp only at s1 h1
  have H1 := Lib.hid h1
  have hl := s1.len63
  clear h1
  go_enter Tryz.func8, Tryz.ntmps8
  go_wp2
  go_loop [15] (fun i => ∃ k : Nat, k ≤ 3 ∧ i = .int .i64 k ∧ Hid (∀ j, j < k → withinV ([ma, mi, pa].getD j 0) 0 999999 = true)) (fun i => 3 - (intOf i).toNat)
  case atStart => exact ⟨0, by omega, rfl, fun j hj => by omega⟩
  case round =>
    obtain ⟨k, hk, rfl, HJ⟩ := hrel
    have hk4 : k = 0 ∨ k = 1 ∨ k = 2 ∨ k = 3 := by omega
    rcases hk4 with rfl | rfl | rfl | rfl
    · generalize hd : withinV ma 0 999999 = d
      have HD := Lib.hid hd
      go_wp2_with (go_at_call 19; refine (value_within_is _ d hd _).mono ?_; rintro e w' ⟨rfl, rfl⟩)
      all_goals first | (go_ret; exact ⟨ret_int (rng_bad (by unfold rngOk; have := HD.out; simp_all)).symm, by go_grown⟩) | skip
      go_round
      case rel => exact ⟨1, by omega, rfl, fun j hj => if h : j < 0 then HJ.out j h else by obtain rfl : j = 0 := (by omega); have := HD.out; simp_all⟩
      case measure => simp [intOf]
    · generalize hd : withinV mi 0 999999 = d
      have HD := Lib.hid hd
      go_wp2_with (go_at_call 19; refine (value_within_is _ d hd _).mono ?_; rintro e w' ⟨rfl, rfl⟩)
      all_goals first | (go_ret; exact ⟨ret_int (rng_bad (by unfold rngOk; have := HD.out; simp_all)).symm, by go_grown⟩) | skip
      go_round
      case rel => exact ⟨2, by omega, rfl, fun j hj => if h : j < 1 then HJ.out j h else by obtain rfl : j = 1 := (by omega); have := HD.out; simp_all⟩
      case measure => simp [intOf]
    · generalize hd : withinV pa 0 999999 = d
      have HD := Lib.hid hd
      go_wp2_with (go_at_call 19; refine (value_within_is _ d hd _).mono ?_; rintro e w' ⟨rfl, rfl⟩)
      all_goals first | (go_ret; exact ⟨ret_int (rng_bad (by unfold rngOk; have := HD.out; simp_all)).symm, by go_grown⟩) | skip
      go_round
      case rel => exact ⟨3, by omega, rfl, fun j hj => if h : j < 2 then HJ.out j h else by obtain rfl : j = 2 := (by omega); have := HD.out; simp_all⟩
      case measure => simp [intOf]
    · have hall : rngOk ⟨ma, mi, pa, pre⟩ = true := by
        have := HJ.out
        have a0 := this 0 (by omega)
        have a1 := this 1 (by omega)
        have a2 := this 2 (by omega)
        unfold rngOk
        simp only [List.getD_cons_zero, List.getD_cons_succ] at a0 a1 a2
        simp only [a0, a1, a2]; rfl
      have HC := Lib.hid (rng_good hall)
      clear hall HJ
      go_wp2
      · go_ret
        exact ⟨ret_int (by rw [HC.out, if_pos (by omega)]), by go_grown⟩
      · have hle : pre.length ≤ 10 := by omega
        have HC2 := Lib.hid (HC.out.trans (if_neg (show ¬ 10 < pre.length by omega)))
        clear HC
        go_loop [30] (fun i => ∃ k : Nat, k ≤ pre.length ∧ i = .int .i64 k ∧ Hid ((pre.take k).all preOk = true)) (fun i => pre.length - (intOf i).toNat)
        case atStart => exact ⟨0, by omega, rfl, rfl⟩
        case round =>
          obtain ⟨k, hk, rfl, HA⟩ := hrel
          by_cases hlt : k < pre.length
          · obtain ⟨b, o, rfl, e0⟩ := s1.addr (strs_get hlt)
            have l0 := World.block_lt_of_cell? _ _ e0
            have hsz := H1.out _ (List.getElem_mem hlt)
            have hsz' := hsz
            unfold maxLen at hsz'
            have HT : Hid ((pre.take (k + 1)).all preOk = preOk pre[k]) := by
              have : (pre.take (k + 1)).all preOk = preOk pre[k] := by rw [List.take_succ_eq_append_getElem hlt, List.all_append, HA.out]; simp
              exact this
            have HF : Hid (preOk pre[k] = false → pre.all preOk = false) := by
              have : preOk pre[k] = false → pre.all preOk = false := fun h => by
                rw [List.all_eq_false]; exact ⟨_, List.getElem_mem hlt, by simp [h]⟩
              exact this
            generalize pre[k] = s at *
            have HO : Hid (preOk s = (decide (s.size ≤ 20) && preB s.data.toList && !(digsB s.data.toList && !wholeB s.data.toList))) := rfl
            generalize h2 : preB s.data.toList = p2 at *
            generalize h3 : digsB s.data.toList = p3 at *
            generalize h4 : wholeB s.data.toList = p4 at *
            go_wp2_with (first | (go_at_call 20; refine (value_isPre_is _ hsz p2 h2 _).mono ?_; rintro e w' ⟨rfl, rfl⟩) | (go_at_call 21; refine (value_allDigits_is _ hsz p3 h3 _).mono ?_; rintro e w' ⟨rfl, rfl⟩) | (go_at_call 22; refine (value_whole_is _ hsz p4 h4 _).mono ?_; rintro e w' ⟨rfl, rfl⟩))
            all_goals clear h2 h3 h4 e0
            · have hf : preOk s = false := by rw [HO.out]; clear HO HF HT HA HC2 H1 s1; grind
              have HC3 := Lib.hid (HC2.out.trans (if_neg (by rw [HF.out hf]; simp)))
              go_ret
              exact ⟨ret_int HC3.out.symm, by go_grown⟩
            · have hf : preOk s = true := by rw [HO.out]; clear HO HF HT HA HC2 H1 s1; grind
              have HT2 := Lib.hid (HT.out.trans hf)
              go_round
              case rel => exact ⟨k + 1, by omega, by go_num, HT2⟩
              case measure => simp [intOf]; omega
            · have hf : preOk s = true := by rw [HO.out]; clear HO HF HT HA HC2 H1 s1; grind
              have HT2 := Lib.hid (HT.out.trans hf)
              go_round
              case rel => exact ⟨k + 1, by omega, by go_num, HT2⟩
              case measure => simp [intOf]; omega
            · have hf : preOk s = false := by rw [HO.out]; clear HO HF HT HA HC2 H1 s1; grind
              have HC3 := Lib.hid (HC2.out.trans (if_neg (by rw [HF.out hf]; simp)))
              go_ret
              exact ⟨ret_int HC3.out.symm, by go_grown⟩
            · have hf : preOk s = false := by rw [HO.out, decide_eq_false (show ¬ s.size ≤ 20 by omega)]; rfl
              have HC3 := Lib.hid (HC2.out.trans (if_neg (by rw [HF.out hf]; simp)))
              go_ret
              exact ⟨ret_int HC3.out.symm, by go_grown⟩
          · have HE : Hid (pre.all preOk = true) := by
              have := HA.out
              rw [List.take_of_length_le (by omega)] at this
              exact this
            go_wp2
            go_ret
            exact ⟨ret_int (by rw [HC2.out, if_pos HE.out]), by go_grown⟩
end Go.Proofs.YtfdaakghkhecgaaGreatDoor
namespace Go.Proofs.YtfdaakghkhecgaaGreatDoor
open Go.RowKit
namespace Rv
theorem cells_Version : Tryz.prog.cellsOf 24 = 4 := by kernel_rfl
theorem cells_int : Tryz.prog.cellsOf 3 = 1 := by kernel_rfl
theorem cells_string : Tryz.prog.cellsOf 9 = 1 := by kernel_rfl
theorem cells_strings : Tryz.prog.cellsOf 22 = 1 := by kernel_rfl
theorem len4 {l : List Value} (h : l.length = 4) : ∃ a b c d, l = [a, b, c, d] := by
  match l, h with
  | [a, b, c, d], _ => exact ⟨a, b, c, d, rfl⟩
def RStr (s : ByteArray) (cs : List Value) : Prop := cs = [.string s] ∧ s.size ≤ maxLen
theorem RStr.len (s : ByteArray) (cs : List Value) (h : RStr s cs) : cs.length = 1 := by rw [h.1]; rfl
theorem reps_str : ∀ {l : List ByteArray} {cs : List Value}, Reps RStr l cs → cs = strs l ∧ ∀ s ∈ l, s.size ≤ maxLen
  | [], _, h => by cases h; exact ⟨rfl, fun _ h => by cases h⟩
  | x :: l, _, ⟨c, r, e, h1, h2⟩ => by
    obtain ⟨h3, h4⟩ := reps_str h2
    obtain ⟨h5, h6⟩ := h1
    subst e; subst h3; subst h5
    exact ⟨rfl, fun s hs => by rcases List.mem_cons.1 hs with rfl | hs; exact h6; exact h4 s hs⟩
section
variable {H : Type} {enc : TypeId × Value → H} {W : World} {spare : Nat → Bool} {held : Bool}
theorem read_string (fuel : Nat) (cs : List Value) (x : DataW H × List MemPlace) (h : DataW.trod enc Tryz.prog W 0 spare held fuel 9 cs = some x) : ∃ s, RStr s cs := by
  obtain ⟨s, h2, _, w2⟩ := DataW.trod_string Tryz.underlying9 h
  exact ⟨s, h2, w2⟩
theorem read_Ver (fuel : Nat) (cs : List Value) (x : DataW H × List MemPlace) (h : DataW.trod enc Tryz.prog W 0 spare held fuel 24 cs = some x) : ∃ v, RepVer W v cs := by
  obtain ⟨xs, n, rfl, _, hlen, _, hf⟩ := DataW.trod_struct Tryz.underlying24 h
  rw [cells_Version] at hlen
  obtain ⟨c0, c1, c2, c3, rfl⟩ := len4 hlen
  have f0 : DataW.trod enc Tryz.prog W 0 spare held n 3 (List.take (Tryz.prog.cellsOf 3) (List.drop 0 [c0, c1, c2, c3])) = xs[0]? := hf 0 _ rfl
  have f1 : DataW.trod enc Tryz.prog W 0 spare held n 3 (List.take (Tryz.prog.cellsOf 3) (List.drop 1 [c0, c1, c2, c3])) = xs[1]? := hf 1 _ rfl
  have f2 : DataW.trod enc Tryz.prog W 0 spare held n 3 (List.take (Tryz.prog.cellsOf 3) (List.drop 2 [c0, c1, c2, c3])) = xs[2]? := hf 2 _ rfl
  have f3 : DataW.trod enc Tryz.prog W 0 spare held n 22 (List.take (Tryz.prog.cellsOf 22) (List.drop 3 [c0, c1, c2, c3])) = xs[3]? := hf 3 _ rfl
  rw [cells_int] at f0 f1 f2
  rw [cells_strings] at f3
  simp only [List.drop, List.take] at f0 f1 f2 f3
  have hx : ∀ i, i < 4 → ∃ y, xs[i]? = some y := fun i hi => ⟨_, List.getElem?_eq_getElem (by simp_all)⟩
  obtain ⟨y0, e0⟩ := hx 0 (by omega)
  obtain ⟨y1, e1⟩ := hx 1 (by omega)
  obtain ⟨y2, e2⟩ := hx 2 (by omega)
  obtain ⟨y3, e3⟩ := hx 3 (by omega)
  rw [e0] at f0
  rw [e1] at f1
  rw [e2] at f2
  rw [e3] at f3
  obtain ⟨k, h0, _, w0⟩ := DataW.trod_int Tryz.underlying3 f0
  obtain ⟨m, h1, _, w1⟩ := DataW.trod_int Tryz.underlying3 f1
  obtain ⟨p, h2, _, w2⟩ := DataW.trod_int Tryz.underlying3 f2
  obtain ⟨a3, is, q3, ics, h3, s3, r3⟩ := read_slice (R := RStr) RStr.len Tryz.underlying22 cells_string (by omega) (fun j cs' y hj ht => read_string j cs' y ht) f3
  obtain ⟨rfl, hr⟩ := reps_str r3
  cases h0
  cases h1
  cases h2
  cases h3
  exact ⟨⟨k, m, p, is⟩, _, _, rfl, s3, hr⟩
end
end Rv
end Go.Proofs.YtfdaakghkhecgaaGreatDoor
namespace Go.Proofs.YtfdaakghkhecgaaGreatDoor
namespace Nm
/-- the base -/
def B : Nat := 4294967296
theorem B_pos : 0 < B := by decide
def val : List Nat → Nat
  | [] => 0
  | x :: l => x + B * val l
def Dg (l : List Nat) : Prop := ∀ x ∈ l, x < B
theorem Dg.nil : Dg [] := fun _ h => by cases h
theorem Dg.cons {x : Nat} {l : List Nat} : Dg (x :: l) ↔ x < B ∧ Dg l := by
  constructor
  · intro h; exact ⟨h x (by simp), fun y hy => h y (by simp [hy])⟩
  · rintro ⟨h, k⟩ y hy
    rcases List.mem_cons.1 hy with rfl | hy
    · exact h
    · exact k y hy
theorem Dg.take {l : List Nat} (h : Dg l) (k : Nat) : Dg (l.take k) := fun x hx => h x (List.mem_of_mem_take hx)
theorem Dg.drop {l : List Nat} (h : Dg l) (k : Nat) : Dg (l.drop k) := fun x hx => h x (List.mem_of_mem_drop hx)
theorem Dg.get {l : List Nat} (h : Dg l) {k : Nat} (hk : k < l.length) : l[k] < B := h _ (List.getElem_mem hk)
theorem Dg.set {l : List Nat} (h : Dg l) (k : Nat) {x : Nat} (hx : x < B) : Dg (l.set k x) := fun y hy => by
  rcases List.mem_or_eq_of_mem_set hy with hy | rfl
  · exact h y hy
  · exact hx
theorem Dg.zeros (n : Nat) : Dg (List.replicate n 0) := fun x hx => by rw [(List.mem_replicate.1 hx).2]; exact B_pos

end Nm
end Go.Proofs.YtfdaakghkhecgaaGreatDoor
namespace Go.Proofs.YtfdaakghkhecgaaGreatDoor
namespace Nm
def digv (c : UInt8) : Nat := c.toNat - 48
/-- what digits mean -/
def decv (l : List UInt8) : Nat := l.foldl (fun a c => a * 10 + digv c) 0
theorem decv_nil : decv [] = 0 := rfl
theorem decv_foldl (m : List UInt8) : ∀ a, m.foldl (fun a c => a * 10 + digv c) a = a * 10 ^ m.length + decv m := by
  induction m with
  | nil => intro a; simp [decv]
  | cons c m ih =>
    intro a
    unfold decv
    simp only [List.foldl_cons, List.length_cons]
    rw [ih, ih (0 * 10 + digv c), Nat.pow_succ, Nat.zero_mul, Nat.zero_add, Nat.add_mul, Nat.mul_assoc, Nat.mul_comm 10]
    omega
theorem decv_append (l m : List UInt8) : decv (l ++ m) = decv l * 10 ^ m.length + decv m := by
  unfold decv; rw [List.foldl_append]; exact decv_foldl m _
theorem decv_snoc (l : List UInt8) (c : UInt8) : decv (l ++ [c]) = decv l * 10 + digv c := by rw [decv_append]; simp [decv]
/-- digits alone -/
def Digs (l : List UInt8) : Prop := ∀ c ∈ l, 48 ≤ c.toNat ∧ c.toNat ≤ 57
theorem Digs.take {l : List UInt8} (h : Digs l) (k : Nat) : Digs (l.take k) := fun c hc => h c (List.mem_of_mem_take hc)
theorem Digs.drop {l : List UInt8} (h : Digs l) (k : Nat) : Digs (l.drop k) := fun c hc => h c (List.mem_of_mem_drop hc)
theorem decv_lt {l : List UInt8} (h : Digs l) : decv l < 10 ^ l.length := by
  rw [← List.reverse_reverse l] at h ⊢
  generalize l.reverse = r at *
  induction r with
  | nil => simp [decv]
  | cons c r ih =>
    rw [List.reverse_cons] at h ⊢
    have h1 := ih (fun d hd => h d (by simp at hd ⊢; exact .inl hd))
    have h2 := h c (by simp)
    rw [decv_snoc, List.length_append, List.length_singleton, Nat.pow_succ]
    unfold digv
    omega
end Nm
end Go.Proofs.YtfdaakghkhecgaaGreatDoor
namespace Go.Proofs.YtfdaakghkhecgaaGreatDoor
namespace Nm
/-- the letter of a digit -/
def dch (d : Nat) : UInt8 := UInt8.ofNat (48 + d)
theorem dch_toNat {d : Nat} (h : d < 10) : (dch d).toNat = 48 + d := by
  unfold dch; rw [UInt8.toNat_ofNat']; exact Nat.mod_eq_of_lt (by omega)
theorem digv_dch {d : Nat} (h : d < 10) : digv (dch d) = d := by unfold digv; rw [dch_toNat h]; omega
/-- the numeral -/
def decS (x : Nat) : List UInt8 := if _h : x < 10 then [dch x] else decS (x / 10) ++ [dch (x % 10)]
  termination_by x
  decreasing_by omega
theorem decS_small {x : Nat} (h : x < 10) : decS x = [dch x] := by rw [decS]; rw [dif_pos h]
theorem decS_big {x : Nat} (h : ¬ x < 10) : decS x = decS (x / 10) ++ [dch (x % 10)] := by rw [decS]; rw [dif_neg h]
theorem decv_decS (x : Nat) : decv (decS x) = x := by
  induction x using Nat.strongRecOn with
  | ind x ih =>
    by_cases h : x < 10
    · rw [decS_small h, ← List.nil_append [dch x], decv_snoc, digv_dch h, decv_nil]; omega
    · rw [decS_big h, decv_snoc, ih _ (by omega), digv_dch (Nat.mod_lt _ (by decide))]; omega
theorem decS_digs (x : Nat) : Digs (decS x) := by
  induction x using Nat.strongRecOn with
  | ind x ih =>
    by_cases h : x < 10
    · rw [decS_small h]; intro c hc; rw [List.mem_singleton] at hc; subst hc; rw [dch_toNat h]; omega
    · rw [decS_big h]
      intro c hc
      rcases List.mem_append.1 hc with hc | hc
      · exact ih _ (by omega) c hc
      · rw [List.mem_singleton] at hc; subst hc; rw [dch_toNat (Nat.mod_lt _ (by decide))]; have := Nat.mod_lt x (show 10 > 0 by decide); omega
/-- digits alone, without needless zeros -/
def Whl (l : List UInt8) : Prop := Digs l ∧ ∃ c r, l = c :: r ∧ (r ≠ [] → c.toNat ≠ 48)
theorem decS_whl (x : Nat) : Whl (decS x) := by
  refine ⟨decS_digs x, ?_⟩
  induction x using Nat.strongRecOn with
  | ind x ih =>
    by_cases h : x < 10
    · exact ⟨_, [], decS_small h, fun h => absurd rfl h⟩
    · obtain ⟨c, r, h1, h2⟩ := ih (x / 10) (by omega)
      refine ⟨c, r ++ [dch (x % 10)], by rw [decS_big h, h1]; rfl, fun _ hc => ?_⟩
      by_cases hr : r = []
      · subst hr
        have hv := decv_decS (x / 10)
        rw [h1, ← List.nil_append [c], decv_snoc, decv_nil] at hv
        unfold digv at hv
        omega
      · exact h2 hr hc
theorem digv_lt {c : UInt8} (hc : 48 ≤ c.toNat ∧ c.toNat ≤ 57) : digv c < 10 := by unfold digv; omega
theorem dch_digv {c : UInt8} (hc : 48 ≤ c.toNat ∧ c.toNat ≤ 57) : dch (digv c) = c := by
  apply UInt8.toNat_inj.1; rw [dch_toNat (digv_lt hc)]; unfold digv; omega
theorem whl_pos {l : List UInt8} (h : Whl l) (hl : 1 < l.length) : 10 ^ (l.length - 1) ≤ decv l := by
  obtain ⟨hd, c, r, rfl, hc⟩ := h
  have hr : r ≠ [] := by intro h; subst h; simp at hl
  have := hc hr
  have h2 := hd c (by simp)
  rw [← List.singleton_append, decv_append, List.length_append]
  simp only [List.length_singleton]
  have h3 : 1 ≤ decv [c] := by rw [← List.nil_append [c], decv_snoc, decv_nil]; unfold digv; omega
  have h4 := Nat.mul_le_mul_right (10 ^ r.length) h3
  rw [show 1 + r.length - 1 = r.length by omega]
  omega
/-- the numeral is the only one -/
theorem whl_eq : ∀ (x : Nat) (l : List UInt8), Whl l → decv l = x → l = decS x := by
  intro x
  induction x using Nat.strongRecOn with
  | ind x ih =>
    intro l hw hv
    obtain ⟨hd, c, r, hl, hc⟩ := id hw
    by_cases hr : r = []
    · subst hr; subst hl
      have h2 := hd c (by simp)
      rw [← List.nil_append [c], decv_snoc, decv_nil] at hv
      have h3 := digv_lt h2
      rw [decS_small (by omega)]
      rw [show x = digv c by omega, dch_digv h2]
    · have hne : l ≠ [] := by rw [hl]; simp
      have hlen : 1 < l.length := by rw [hl]; have := List.length_pos_iff.2 hr; simp; omega
      have hp := whl_pos hw hlen
      have h10 : 10 ≤ decv l := by
        refine Nat.le_trans ?_ hp
        have := Nat.pow_le_pow_right (show 0 < 10 by decide) (show 1 ≤ l.length - 1 by omega)
        simpa using this
      have e := List.dropLast_concat_getLast hne
      have hdl : Whl l.dropLast := by
        refine ⟨fun c hc => hd c (List.dropLast_subset _ hc), c, r.dropLast, by rw [hl, List.dropLast_cons_of_ne_nil hr], fun _ => hc hr⟩
      have hg := hd (l.getLast hne) (List.getLast_mem hne)
      have hv2 := hv
      rw [← e, decv_snoc] at hv2
      have h9 := digv_lt hg
      have h5 := ih (x / 10) (by omega) l.dropLast hdl (by omega)
      rw [decS_big (by omega), ← h5, show x % 10 = digv (l.getLast hne) by omega, dch_digv hg, e]
theorem decS_length {x k : Nat} (h : x < 10 ^ k) (hk : 1 ≤ k) : (decS x).length ≤ k := by
  by_cases h1 : 1 < (decS x).length
  · have := whl_pos (decS_whl x) h1
    rw [decv_decS] at this
    have h2 := (Nat.pow_lt_pow_iff_right (show 1 < 10 by decide)).1 (Nat.lt_of_le_of_lt this h)
    omega
  · omega
theorem lt_of_decS {x k : Nat} (h : (decS x).length ≤ k) : x < 10 ^ k := by
  have := decv_lt (decS_digs x)
  rw [decv_decS] at this
  exact Nat.lt_of_lt_of_le this (Nat.pow_le_pow_right (by decide) h)
end Nm
end Go.Proofs.YtfdaakghkhecgaaGreatDoor
namespace Go.Proofs.YtfdaakghkhecgaaGreatDoor
namespace Tx
open _root_.Go.Proofs.YtfdaakghkhecgaaGreatDoor.Nm
/-- l cut at each byte c -/
def cutL (c : UInt8) : List UInt8 → List (List UInt8)
  | [] => [[]]
  | b :: r => if b = c then [] :: cutL c r else
    match cutL c r with
    | [] => [[b]]
    | x :: y => (b :: x) :: y
theorem cutL_ne (c : UInt8) : ∀ l, cutL c l ≠ []
  | [] => by simp [cutL]
  | b :: r => by
    unfold cutL
    by_cases h : b = c
    · rw [if_pos h]; simp
    · rw [if_neg h]
      cases cutL c r <;> simp
theorem cutL_none {c : UInt8} : ∀ {l : List UInt8}, c ∉ l → cutL c l = [l]
  | [], _ => rfl
  | b :: r, h => by
    have hb : b ≠ c := fun e => h (by simp [e])
    have ih := cutL_none (c := c) (l := r) (fun e => h (List.mem_cons_of_mem _ e))
    unfold cutL
    rw [if_neg hb, ih]
theorem cutL_app {c : UInt8} {r : List UInt8} : ∀ {x : List UInt8}, c ∉ x → cutL c (x ++ c :: r) = x :: cutL c r
  | [], _ => by show cutL c (c :: r) = _; rw [cutL, if_pos rfl]
  | b :: x, h => by
    have hb : b ≠ c := fun e => h (by simp [e])
    have ih := cutL_app (c := c) (r := r) (x := x) (fun e => h (List.mem_cons_of_mem _ e))
    show cutL c (b :: (x ++ c :: r)) = _
    rw [cutL, if_neg hb, ih]
def joinL (c : UInt8) : List (List UInt8) → List UInt8
  | [] => []
  | [x] => x
  | x :: y :: r => x ++ c :: joinL c (y :: r)
theorem mem_split {c : UInt8} : ∀ {l : List UInt8}, c ∈ l → ∃ x r, l = x ++ c :: r ∧ c ∉ x
  | [], h => by simp at h
  | b :: l, h => by
    by_cases e : b = c
    · exact ⟨[], l, by simp [e], by simp⟩
    · rcases List.mem_cons.1 h with h | h
      · exact absurd h.symm e
      · obtain ⟨x, r, h1, h2⟩ := mem_split h
        refine ⟨b :: x, r, by simp [h1], fun hm => ?_⟩
        rcases List.mem_cons.1 hm with e' | hm
        · exact e e'.symm
        · exact h2 hm
theorem index_at {c : UInt8} {r : List UInt8} : ∀ {x : List UInt8}, c ∉ x → Lib.index (x ++ c :: r) [c] = ((x.length : Nat) : Int)
  | [], _ => by show Lib.index (c :: r) [c] = _; rw [Lib.index]; simp [List.isPrefixOf]
  | b :: x, h => by
    have hb : b ≠ c := fun e => h (by simp [e])
    have ih := index_at (c := c) (r := r) (x := x) (fun e => h (List.mem_cons_of_mem _ e))
    have hp : ([c] : List UInt8).isPrefixOf (b :: (x ++ c :: r)) = false := by simp [List.isPrefixOf, Ne.symm hb]
    have hne : (((x.length : Nat) : Int) == -1) = false := by rw [beq_eq_false_iff_ne]; omega
    show Lib.index (b :: (x ++ c :: r)) [c] = _
    rw [Lib.index, hp, ih, hne]
    simp
theorem index_no {c : UInt8} : ∀ {x : List UInt8}, c ∉ x → Lib.index x [c] = -1
  | [], _ => by rw [Lib.index]; rfl
  | b :: x, h => by
    have hb : b ≠ c := fun e => h (by simp [e])
    have ih := index_no (c := c) (x := x) (fun e => h (List.mem_cons_of_mem _ e))
    have hp : ([c] : List UInt8).isPrefixOf (b :: x) = false := by simp [List.isPrefixOf, Ne.symm hb]
    rw [Lib.index, hp, ih]
    rfl
theorem splitK_cut (c : UInt8) : ∀ (n : Nat) (l : List UInt8), l.length ≤ n → Lib.splitK [c] 0 (Lib.count l [c]) l = cutL c l := by
  intro n
  induction n with
  | zero =>
    intro l hn
    have : l = [] := List.eq_nil_of_length_eq_zero (by omega)
    subst this
    rw [Lib.count_miss (index_no (by simp))]; rfl
  | succ n ih =>
    intro l hn
    by_cases h : c ∈ l
    · obtain ⟨x, r, rfl, hx⟩ := mem_split h
      have hi := index_at (r := r) hx
      have hd : (x ++ c :: r).drop (x.length + [c].length) = r := by simp
      have hne : (((x.length : Nat) : Int) == -1) = false := by rw [beq_eq_false_iff_ne]; omega
      have h2 := ih r (by simp at hn; omega)
      rw [Lib.count_hit (by simp) hi, hd, Nat.add_comm, Lib.splitK, hi, hne, cutL_app hx, Int.toNat_natCast, hd, h2]
      simp
    · rw [Lib.count_miss (index_no h), cutL_none h]; rfl
/-- what strings.Split gives at one byte -/
theorem split_one (s : ByteArray) (c : UInt8) : (Lib.splitB ⟨#[c]⟩ 0 (Lib.countB s ⟨#[c]⟩) s).map (·.data.toList) = cutL c s.data.toList := by
  rw [Lib.splitB_data]
  exact splitK_cut c _ _ (Nat.le_refl _)
/-- a numeral as strconv.Itoa writes it -/
def itoaS (v : Int) : List UInt8 := if v < 0 then 45 :: decS v.natAbs else decS v.toNat
theorem decDigits_is (u : Nat) : Lib.decDigits u = decS u := by
  induction u using Nat.strongRecOn with
  | ind u ih =>
    by_cases h : u < 10
    · rw [Lib.decDigits, dif_pos h, decS_small h]; rfl
    · rw [Lib.decDigits, dif_neg h, decS_big h, ih _ (by omega)]; rfl
theorem itoa_is (v : Int) : Lib.itoa v = itoaS v := by
  unfold Lib.itoa itoaS
  rw [decDigits_is, decDigits_is]
theorem itoaS_nat (n : Nat) : itoaS (n : Int) = decS n := by
  unfold itoaS
  rw [if_neg (by omega), Int.toNat_natCast]
theorem decFrom_digs : ∀ {l : List UInt8} {acc : Nat}, Digs l → Lib.decFrom acc l = some (acc * 10 ^ l.length + decv l)
  | [], acc, _ => by simp [Lib.decFrom, decv]
  | c :: l, acc, h => by
    have hc := h c (by simp)
    have hd : Lib.digitVal c = some (digv c) := by unfold Lib.digitVal digv; rw [if_pos hc]
    have ih := decFrom_digs (l := l) (acc := acc * 10 + digv c) (fun d hd => h d (List.mem_cons_of_mem _ hd))
    have e : decv (c :: l) = digv c * 10 ^ l.length + decv l := by
      have := decv_foldl l (0 * 10 + digv c)
      show List.foldl _ (0 * 10 + digv c) l = _
      rw [this]; simp
    rw [Lib.decFrom, hd]
    show Lib.decFrom (acc * 10 + digv c) l = _
    rw [ih, e, List.length_cons, Nat.pow_succ, Nat.add_mul, Nat.mul_assoc, Nat.mul_comm 10]
    congr 1; omega
theorem decNat_digs {l : List UInt8} (h : Digs l) (hn : l ≠ []) : Lib.decNat l = some (decv l) := by
  unfold Lib.decNat
  have : l.isEmpty = false := by cases l <;> simp_all
  rw [this, decFrom_digs h]; simp
theorem digs_first {c : UInt8} {l : List UInt8} (h : Digs (c :: l)) : (c == 45) = false ∧ (c == 43) = false := by
  have hc := h c (by simp)
  constructor
  · rw [beq_eq_false_iff_ne]; intro e; subst e; exact absurd hc.1 (by decide)
  · rw [beq_eq_false_iff_ne]; intro e; subst e; exact absurd hc.1 (by decide)
theorem atoi_digs {l : List UInt8} (h : Digs l) (hn : l ≠ []) : Lib.atoi l = some ((decv l : Nat) : Int) := by
  cases l with
  | nil => exact absurd rfl hn
  | cons c r =>
    have h1 := digs_first h
    unfold Lib.atoi
    simp only [h1.1, h1.2, decNat_digs h hn]
    rfl
end Tx
end Go.Proofs.YtfdaakghkhecgaaGreatDoor
namespace Go.Proofs.YtfdaakghkhecgaaGreatDoor
namespace Tx
open _root_.Go.Proofs.YtfdaakghkhecgaaGreatDoor.Nm
/-- what stands before the first byte c, and behind it -/
def cut1 (c : UInt8) : List UInt8 → List UInt8 × Option (List UInt8)
  | [] => ([], none)
  | b :: r => if b = c then ([], some r) else (b :: (cut1 c r).1, (cut1 c r).2)
theorem cut1_none {c : UInt8} : ∀ {l : List UInt8}, c ∉ l → cut1 c l = (l, none)
  | [], _ => rfl
  | b :: r, h => by
    have hb : b ≠ c := fun e => h (by simp [e])
    rw [cut1, if_neg hb, cut1_none (l := r) (fun e => h (List.mem_cons_of_mem _ e))]
theorem cut1_app {c : UInt8} {r : List UInt8} : ∀ {x : List UInt8}, c ∉ x → cut1 c (x ++ c :: r) = (x, some r)
  | [], _ => by show cut1 c (c :: r) = _; rw [cut1, if_pos rfl]
  | b :: x, h => by
    have hb : b ≠ c := fun e => h (by simp [e])
    show cut1 c (b :: (x ++ c :: r)) = _
    rw [cut1, if_neg hb, cut1_app (x := x) (fun e => h (List.mem_cons_of_mem _ e))]
def tailO (c : UInt8) : Option (List UInt8) → List UInt8
  | none => []
  | some r => c :: r
theorem cut1_back (c : UInt8) : ∀ l, (cut1 c l).1 ++ tailO c (cut1 c l).2 = l
  | [] => rfl
  | b :: r => by
    unfold cut1
    by_cases h : b = c
    · rw [if_pos h, h]; rfl
    · rw [if_neg h]
      show b :: ((cut1 c r).1 ++ tailO c (cut1 c r).2) = _
      rw [cut1_back c r]
/-- a number of a version -/
def vnO (l : List UInt8) : Option Nat := if wholeB l = true ∧ l.length ≤ 6 then some (decv l) else none
theorem whole_digsB {l : List UInt8} : digsB l = true ↔ Digs l := by
  unfold digsB
  rw [List.all_eq_true]
  constructor
  · intro h c hc
    have := of_decide_eq_true (h c hc)
    omega
  · intro h c hc
    have := h c hc
    unfold digC digN
    exact decide_eq_true (by omega)
theorem whole_iff {l : List UInt8} : wholeB l = true ↔ Whl l := by
  unfold wholeB Whl
  cases l with
  | nil => simp
  | cons c r =>
    simp only [List.isEmpty_cons, Bool.not_false, Bool.true_and, Bool.and_eq_true, whole_digsB, zeroAt, List.length_cons]
    constructor
    · rintro ⟨h1, h2⟩
      refine ⟨h2, c, r, rfl, fun hr e => ?_⟩
      have hl : 0 < r.length := List.length_pos_iff.2 hr
      have : (decide (1 < r.length + 1) && decide ((c.toNat : Int) = 48)) = true := by simp [e]; omega
      rw [this] at h1; cases h1
    · rintro ⟨h2, c', r', e, h1⟩
      injection e with e1 e2
      subst e1; subst e2
      refine ⟨?_, h2⟩
      rw [Bool.not_eq_true']
      by_cases hr : r = []
      · subst hr; rfl
      · have := h1 hr
        have h3 : decide ((c.toNat : Int) = 48) = false := decide_eq_false (by omega)
        rw [h3, Bool.and_false]
theorem vnO_iff {l : List UInt8} {n : Nat} : vnO l = some n ↔ l = decS n ∧ n ≤ 999999 := by
  unfold vnO
  constructor
  · intro h
    by_cases hc : wholeB l = true ∧ l.length ≤ 6
    · rw [if_pos hc] at h
      injection h with h
      have e := whl_eq n l (whole_iff.1 hc.1) h
      refine ⟨e, ?_⟩
      have := lt_of_decS (x := n) (k := 6) (by rw [← e]; exact hc.2)
      omega
    · rw [if_neg hc] at h; cases h
  · rintro ⟨rfl, h⟩
    rw [if_pos ⟨whole_iff.2 (decS_whl n), decS_length (x := n) (k := 6) (by omega) (by decide)⟩, decv_decS]
/-- the parts behind '-' -/
def preO : Option (List UInt8) → List ByteArray
  | none => []
  | some q => (cutL 46 q).map fun l => ⟨l.toArray⟩
/-- how a version is read -/
def verO (t : List UInt8) : Option Ver :=
  match cutL 46 (cut1 45 t).1 with
  | [a, b, c] => match vnO a, vnO b, vnO c with
    | some x, some y, some z => if (preO (cut1 45 t).2).length ≤ 10 ∧ (preO (cut1 45 t).2).all preOk = true then some ⟨x, y, z, preO (cut1 45 t).2⟩ else none
    | _, _, _ => none
  | _ => none
def preT (l : List ByteArray) : List UInt8 := if l = [] then [] else 45 :: joinL 46 (l.map (·.data.toList))
/-- how a version is written -/
def verT (x : Ver) : List UInt8 := decS x.ma.toNat ++ 46 :: (decS x.mi.toNat ++ 46 :: decS x.pa.toNat) ++ preT x.pre
theorem chk_num {x : Ver} (h : chkVer x = 0) : (0 ≤ x.ma ∧ x.ma ≤ 999999) ∧ (0 ≤ x.mi ∧ x.mi ≤ 999999) ∧ (0 ≤ x.pa ∧ x.pa ≤ 999999) ∧ x.pre.length ≤ 10 ∧ x.pre.all preOk = true := by
  unfold chkVer at h
  by_cases h1 : rngOk x = false
  · rw [if_pos h1] at h; cases h
  · rw [if_neg h1] at h
    by_cases h2 : 10 < x.pre.length
    · rw [if_pos h2] at h; cases h
    · rw [if_neg h2] at h
      by_cases h3 : x.pre.all preOk = true
      · have h4 : rngOk x = true := by simpa using h1
        unfold rngOk withinV at h4
        simp only [Bool.and_eq_true, decide_eq_true_eq] at h4
        exact ⟨h4.1.1, h4.1.2, h4.2, by omega, h3⟩
      · rw [if_neg h3] at h; cases h
theorem chk_of {x : Ver} (h1 : 0 ≤ x.ma ∧ x.ma ≤ 999999) (h2 : 0 ≤ x.mi ∧ x.mi ≤ 999999) (h3 : 0 ≤ x.pa ∧ x.pa ≤ 999999) (h4 : x.pre.length ≤ 10) (h5 : x.pre.all preOk = true) : chkVer x = 0 := by
  have hr : rngOk x = true := by
    unfold rngOk withinV
    simp only [Bool.and_eq_true, decide_eq_true_eq]
    exact ⟨⟨h1, h2⟩, h3⟩
  unfold chkVer
  rw [if_neg (by rw [hr]; decide), if_neg (by omega), if_pos h5]
end Tx
end Go.Proofs.YtfdaakghkhecgaaGreatDoor
