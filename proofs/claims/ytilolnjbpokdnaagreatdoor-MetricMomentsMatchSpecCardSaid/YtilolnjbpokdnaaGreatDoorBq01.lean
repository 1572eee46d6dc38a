/- Words for slices that are read and small facts on worlds, for all walks of this seat: no program stands in it. How the arguments of a law, read as data, lie in memory: slices of whatever elements, field by field. Ratios, tests and trials that are read as data. Zero, Turned, Times of package value. Decimal numerals: plain mathematics. allDigits, whole, isPre, within of package value. whole of package value. readNat of package value. strings.CutPrefix, xratOf of package value: ratios that are read. -/
import Derived.Test.YtilolnjbpokdnaaGreatDoorBq00
import Derived.WalkKit
import Derived.WalkSpells
import Derived.WalkLawsBesides
import Derived.Handy
import Derived.Lib.Hide
import Derived.Lib.ConvBytes
import Derived.Deep.DeepAppendRoom
import Derived.Laws.AppendOwnNone
import Derived.ChangeArms
import Derived.DataReads
import Derived.SizedLaws
import Derived.Test.YtilolnjbpokdnaaGreatDoorProg
import Derived.Test.YtilolnjbpokdnaaGreatDoorBq09
import Derived.Test.YtilolnjbpokdnaaGreatDoorBq03
import Derived.Test.YtilolnjbpokdnaaGreatDoorBq04
import Derived.Test.YtilolnjbpokdnaaGreatDoorBq05
import Derived.Test.YtilolnjbpokdnaaGreatDoorBq06
import Derived.Test.YtilolnjbpokdnaaGreatDoorBq07
import Derived.Test.YtilolnjbpokdnaaGreatDoorBq08
import Derived.Test.YtilolnjbpokdnaaGreatDoorBq10
import Derived.Test.YtilolnjbpokdnaaGreatDoorBq11
import Derived.Test.YtilolnjbpokdnaaGreatDoorBq12
namespace Go.Proofs.YtilolnjbpokdnaaGreatDoor
open Go.RowKit

/-- []byte(s): a new array that reads as the string. -/
theorem wpList_bytes_of_string {P : Program} {w : World} {ops : Array Oper} {rest : List Oper} {o : Oper} {a : Act} {Q : Exit → Act → World → Prop} (hgd : o.guard = none) (x : Operand) (src dst e : TypeId)
    (ho : o.op = .convert src dst x) (hs : P.underlying src = some .string) (hd : P.underlying dst = some (.slice e)) (he : P.underlying e = some (.int .u8))
    (s : ByteArray) (hx : a.eval x = .string s) (hsz : s.size ≤ maxLen)
    (h : ∀ cap w', Sl w' (.slice (some ⟨w.heap.size, 0, none⟩) s.size cap) s.size (bcells s.data.toList) → Below w.heap.size w w' → w'.heap.size = w.heap.size + 1 → wpList P ops Q rest (a.put o.dst (.slice (some ⟨w.heap.size, 0, none⟩) s.size cap)) w') : wpList P ops Q (o :: rest) a w := by
  refine wpList_plain hgd fun K hK => ?_
  have hr := Lib.run_convert_string_bytes (P := P) w src dst e s hs hd he
  unfold Oper.wp execOp
  simp only [ho, hx, Sem.run_bind, hr, Result.andThen_ok, Sem.run_pure]
  refine hK _ _ (h _ _ ⟨_, _, rfl, grownCap_ge _ _ _ _, grownCap_le_maxLen _ _ _ _ hsz, (fun h => by cases h), fun i x hx => ⟨_, _, rfl, ?_⟩⟩ ⟨?_, ?_, ?_, ?_, ?_⟩ (Lib.bytesWorld_size _ _ _))
  · have hi : i < s.data.toList.length := by have := (List.getElem?_eq_some_iff.1 hx).1; rwa [bcells_length] at this
    rw [bcells_get _ _ hi] at hx
    rw [Nat.zero_add, Lib.bytesWorld_cell _ _ _ _ (by simpa using hi)]
    rw [← hx, List.getD_eq_getElem?_getD, List.getElem?_eq_getElem hi]; rfl
  · simp [Lib.bytesWorld, World.freeze]; rfl
  · simp [Lib.bytesWorld, World.freeze]
  · simp [Lib.bytesWorld, World.freeze]; rfl
  · rw [Lib.bytesWorld_size]; omega
  · exact fun k hk => Lib.bytesWorld_at_old _ _ _ _ hk

end Go.Proofs.YtilolnjbpokdnaaGreatDoor
namespace Go.Proofs.YtilolnjbpokdnaaGreatDoor
open Go.RowKit

/-- A value of more cells than one is an aggregate of them. -/
theorem agg_of_cells {v : Value} (h : v.cells.toList.length ≠ 1) : v = .agg v.cells.toList.toArray := by
  cases v <;> simp_all [Value.cells]
end Go.Proofs.YtilolnjbpokdnaaGreatDoor
namespace Go.Proofs.YtilolnjbpokdnaaGreatDoor
open Go.RowKit
theorem read_Ratio {H : Type} {enc : TypeId × Value → H} {W : World} {spare : Nat → Bool} {held : Bool} (fuel : Nat) (cs : List Value) (x : DataW H × List MemPlace) (h : DataW.trod enc Tryz.prog W 0 spare held fuel 23 cs = some x) :
    ∃ (x0 : ByteArray) (x1 : ByteArray), cs = [.string x0, .string x1] ∧ x0.size ≤ maxLen ∧ x1.size ≤ maxLen := by
  obtain ⟨xs, n, rfl, _, hlen, hxl, hf⟩ := DataW.trod_struct Tryz.underlying23 h
  rw [show Tryz.prog.cellsOf 23 = 2 by kernel_rfl] at hlen
  obtain ⟨c0, r0, rfl, l0⟩ := uncons hlen
  obtain ⟨c1, r1, rfl, l1⟩ := uncons l0
  obtain rfl := List.length_eq_zero_iff.1 l1
  have hx : ∀ i, i < 2 → ∃ y, xs[i]? = some y := fun i hi => ⟨_, List.getElem?_eq_getElem (by rw [hxl]; exact hi)⟩
  have f0 : DataW.trod enc Tryz.prog W 0 spare held n 9 (List.take (Tryz.prog.cellsOf 9) (List.drop 0 [c0, c1])) = xs[0]? := hf 0 _ rfl
  rw [show Tryz.prog.cellsOf 9 = 1 by kernel_rfl] at f0
  simp only [List.drop, List.take] at f0
  obtain ⟨y0, e0⟩ := hx 0 (by omega)
  rw [e0] at f0
  obtain ⟨x0, h0, _, w0⟩ := DataW.trod_string Tryz.underlying9 f0
  have f1 : DataW.trod enc Tryz.prog W 0 spare held n 9 (List.take (Tryz.prog.cellsOf 9) (List.drop 1 [c0, c1])) = xs[1]? := hf 1 _ rfl
  rw [show Tryz.prog.cellsOf 9 = 1 by kernel_rfl] at f1
  simp only [List.drop, List.take] at f1
  obtain ⟨y1, e1⟩ := hx 1 (by omega)
  rw [e1] at f1
  obtain ⟨x1, h1, _, w1⟩ := DataW.trod_string Tryz.underlying9 f1
  cases h0
  cases h1
  exact ⟨x0, x1, rfl, w0, w1⟩
end Go.Proofs.YtilolnjbpokdnaaGreatDoor
namespace Go.Proofs.YtilolnjbpokdnaaGreatDoor
open Go.RowKit
namespace Nm
set_option maxHeartbeats 2000000 in
theorem zero_at (q : Rat) (v : Value) (w : World) (hx : XR w v q) : Calls Tryz.prog 102 #[v] w fun e w' => e = .returned (.bool (decide (q.num = 0))) ∧ Below w.heap.size w w' := by
  obtain ⟨a1, c1, a2, c2, rfl, h1, h2⟩ := hx.open_
  have HZ : Hid (((((digs q.num.natAbs).length : Nat) : Int) == 0) = decide (q.num = 0)) := by
    have : ((((digs q.num.natAbs).length : Nat) : Int) == 0) = decide (q.num = 0) := by
      rw [Bool.eq_iff_iff, beq_iff_eq, decide_eq_true_eq]
      have h := @wlen_eq_zero q.num.natAbs
      unfold wlen at h
      omega
    exact this
  clear h1 h2 hx
  go_enter Tryz.func102, Tryz.ntmps102
  go_wp2
  go_ret
  exact ⟨congrArg (fun b => Ending.returned (.bool b)) HZ.out, by go_grown⟩
set_option maxHeartbeats 4000000 in
theorem turned_at (q : Rat) (v : Value) (w : World) (hx : XR w v q) (h0 : q.num ≠ 0) : Calls Tryz.prog 113 #[v] w (XPost w q⁻¹) := by
  obtain ⟨a1, c1, a2, c2, rfl, h1, h2⟩ := hx.open_
  have H1 := Lib.hid h1
  have H2 := Lib.hid h2
  have HI := Lib.hid (inv_facts h0)
  clear h1 h2 hx h0
  go_enter Tryz.func113, Tryz.ntmps113
  go_upto_region 1 with (fail)
  refine wp_box2r fun W hsz hbW hA hC hF => ?_
  obtain ⟨_, hA2⟩ := id hA
  obtain ⟨r0, r1, r2⟩ := boxX hC
  have g0 := hF 0
  have g1 := hF 1
  have g2 := hF 2
  obtain ⟨k1, k2, k3, z0, z1, z2⟩ := res3 (decide (q.num < 0)) hC (H2.out.ext hbW) (H1.out.ext hbW) hbW (by omega)
  have HK := Lib.hid (And.intro k1 (And.intro k2 k3))
  clear k1 k2 k3 hsz
  go_wp2
  refine bodyPost_ret (v := .agg #[.bool (decide (q.num < 0)), .slice a2 (digs q.den).length c2, .slice a1 (digs q.num.natAbs).length c1]) (by simp [results, Tryz.results113, go_sem, z0, z1, z2]) rfl ⟨_, rfl, ⟨.slice a2 (digs q.den).length c2, .slice a1 (digs q.num.natAbs).length c1, ?_, ?_, ?_⟩, HK.out.2.2⟩
  · rw [HI.out.2.2.1]
  · rw [HI.out.1]; exact HK.out.1
  · rw [HI.out.2.1]; exact HK.out.2.1
end Nm
end Go.Proofs.YtilolnjbpokdnaaGreatDoor
namespace Go.Proofs.YtilolnjbpokdnaaGreatDoor
namespace Nm
theorem decv_take_add (l : List UInt8) (i n : Nat) (h : i + n ≤ l.length) : decv (l.take (i + n)) = decv (l.take i) * 10 ^ n + decv ((l.drop i).take n) := by
  rw [List.take_add, decv_append, List.length_take, List.length_drop, Nat.min_eq_left (by omega)]
theorem read_step {P V A c o b d0 : Nat} (h : V + P * c = A * b + d0) : (V + P * ((c + o * b) % 4294967296)) + P * B * ((c + o * b) / 4294967296) = (A + P * o) * b + d0 := by
  have e : P * ((c + o * b) % 4294967296) + P * B * ((c + o * b) / 4294967296) = P * (c + o * b) := by
    rw [B_eq, Nat.mul_assoc, ← Nat.mul_add, Nat.mod_add_div]
  rw [Nat.mul_add] at e
  rw [Nat.add_mul, Nat.mul_assoc P o b]
  omega
end Nm
end Go.Proofs.YtilolnjbpokdnaaGreatDoor
namespace Go.Proofs.YtilolnjbpokdnaaGreatDoor
open Go.RowKit
namespace Dg
end Dg
set_option maxHeartbeats 2000000 in
theorem value_allDigits (s : ByteArray) (hs : s.size ≤ maxLen) (w : World) : Calls Tryz.prog 212 #[.string s] w fun e w' => e = .returned (.bool (digsB s.data.toList)) ∧ w = w' := by
  unfold maxLen at hs
  go_enter Tryz.func212, Tryz.ntmps212
  go_wp2
  go_loop [6] (fun i => ∃ k : Nat, k ≤ s.size ∧ i = .int .i64 k ∧ Hid ((s.data.toList.take k).all digC = true)) (fun i => s.size - (intOf i).toNat)
  case atStart => exact ⟨0, by omega, rfl, rfl⟩
  case round =>
    obtain ⟨k, hk, rfl, HA⟩ := hrel
    by_cases hlt : k < s.size
    · by_cases hw : digC s[k] = true
      · have HW := Lib.hid hw
        have hn : 48 ≤ (s[k].toNat : Int) ∧ (s[k].toNat : Int) ≤ 57 := of_decide_eq_true hw
        obtain ⟨hn1, hn2⟩ := hn
        clear hw
        go_wp2
        all_goals go_round
        case rel => exact ⟨k + 1, by omega, by go_num, Dg.all_snoc _ _ _ hlt HA.out HW.out⟩
        case measure => simp [intOf]; omega
      · have hw' : digC s[k] = false := by simpa using hw
        have HW : Hid (digsB s.data.toList = false) := Dg.all_not _ _ _ hlt hw'
        have hn : ¬ (48 ≤ (s[k].toNat : Int) ∧ (s[k].toNat : Int) ≤ 57) := of_decide_eq_false hw'
        clear hw hw'
        by_cases h1 : (s[k].toNat : Int) < 48
        · clear hn
          go_wp2
          go_ret
          exact ⟨Dg.ret_bool HW.out.symm, rfl⟩
        · have h2 : (57 : Int) < (s[k].toNat : Int) := by omega
          clear hn
          go_wp2
          go_ret
          exact ⟨Dg.ret_bool HW.out.symm, rfl⟩
    · have HW : Hid (digsB s.data.toList = true) := Dg.all_end _ _ _ hlt HA.out
      go_wp2
      go_ret
      exact ⟨Dg.ret_bool HW.out.symm, rfl⟩
end Go.Proofs.YtilolnjbpokdnaaGreatDoor
namespace Go.Proofs.YtilolnjbpokdnaaGreatDoor
open Go.RowKit
set_option maxHeartbeats 4000000 in
theorem value_whole (s : ByteArray) (hs : s.size ≤ maxLen) (w : World) : Calls Tryz.prog 180 #[.string s] w fun e w' => e = .returned (.bool (wholeB s.data.toList)) ∧ w = w' := by
  have hs' := hs
  unfold maxLen at hs'
  by_cases h0 : 0 < s.size
  · have hem : s.toList.isEmpty = false := by
      rw [ByteArray.toList_eq]
      cases hq : s.data.toList with
      | nil => have hl : s.data.toList.length = s.size := Array.length_toList
               rw [hq] at hl; simp at hl; omega
      | cons _ _ => rfl
    have hem' : s.data.toList.isEmpty = false := by rw [← ByteArray.toList_eq]; exact hem
    have HW : Hid (wholeB s.data.toList = (!(decide (1 < s.size) && decide ((s[0].toNat : Int) = 48)) && digsB s.data.toList)) := by
      have : wholeB s.data.toList = (!(decide (1 < s.size) && decide ((s[0].toNat : Int) = 48)) && digsB s.data.toList) := by
        unfold wholeB; rw [hem', zeroAt_of s h0, show s.data.toList.length = s.size from Array.length_toList]; simp
      exact this
    clear hem'
    generalize wholeB s.data.toList = N at *
    by_cases h1 : 1 < s.size
    · by_cases h2 : (s[0].toNat : Int) = 48
      · have HF : Hid (N = false) := by have := HW.out; rw [decide_eq_true h1, decide_eq_true h2] at this; exact this
        clear HW
        go_enter Tryz.func180, Tryz.ntmps180
        go_wp2
        go_ret
        exact ⟨Dg.ret_bool HF.out.symm, rfl⟩
      · have HF : Hid (N = digsB s.data.toList) := by have := HW.out; rw [decide_eq_false h2] at this; simp at this; exact this
        clear HW
        go_enter Tryz.func180, Tryz.ntmps180
        go_wp2_with (go_at_call 212; refine (value_allDigits s hs _).mono ?_; rintro e w' ⟨rfl, rfl⟩)
        go_ret
        exact ⟨Dg.ret_bool HF.out.symm, rfl⟩
    · have HF : Hid (N = digsB s.data.toList) := by have := HW.out; rw [decide_eq_false h1] at this; simp at this; exact this
      clear HW
      go_enter Tryz.func180, Tryz.ntmps180
      go_wp2_with (go_at_call 212; refine (value_allDigits s hs _).mono ?_; rintro e w' ⟨rfl, rfl⟩)
      go_ret
      exact ⟨Dg.ret_bool HF.out.symm, rfl⟩
  · have hnil : s.data.toList = [] := List.eq_nil_of_length_eq_zero (by have hl : s.data.toList.length = s.size := Array.length_toList
                                                                        omega)
    have hem : s.toList.isEmpty = true := by rw [ByteArray.toList_eq, hnil]; rfl
    have HF : Hid (wholeB s.data.toList = false) := by
      have : wholeB s.data.toList = false := by rw [hnil]; rfl
      exact this
    clear hnil
    go_enter Tryz.func180, Tryz.ntmps180
    go_wp2
    go_ret
    exact ⟨Dg.ret_bool HF.out.symm, rfl⟩
end Go.Proofs.YtilolnjbpokdnaaGreatDoor
namespace Go.Proofs.YtilolnjbpokdnaaGreatDoor
open Go.RowKit
namespace Nm
theorem ext_size (s : ByteArray) (i n : Nat) (h : i + n ≤ s.size) : (s.extract i (i + n)).size = n := by
  simp; omega
set_option maxRecDepth 100000 in
set_option maxHeartbeats 16000000 in
theorem readNat_at (s : ByteArray) (hd : Digs s.data.toList) (hs : s.size ≤ 1000000000) (w : World) : Calls Tryz.prog 181 #[.string s] w (NPost w (decv s.data.toList)) := by
  have HD := Lib.hid hd
  have hL : s.data.toList.length = s.size := Array.length_toList
  have HL := Lib.hid hL
  have HB := Lib.hid u32_info
  obtain ⟨ti, hi, hz0, hz1, hz2⟩ := info_parts u32_info
  have HI := Lib.hid hi
  have HZ0 := Lib.hid hz0
  have HZ1 := Lib.hid hz1
  have HZ2 := Lib.hid hz2
  clear hd hL hi hz0 hz1 hz2
  go_enter Tryz.func181, Tryz.ntmps181
  go_wp2_with (refine wpList_make_own w rfl _ _ 90 rfl w.heap.size 189 ti _ 1 Tryz.underlying90 HI.out HZ0.out HZ1.out .i64 .i64 _ (s.size / 9 + 1) rfl rfl ?_ ?_ ?_ (Nat.le_refl _) ?_; rotate_left 3; intro W0 hown0 hg0)
  case refine_1 => go_num
  case refine_2 => rw [HZ2.out]; omega
  case refine_3 => unfold maxLen; omega
  have hB0 : Below w.heap.size w W0 := Below.grown (Below.refl _ _) hg0 (Nat.le_refl _) (fun k e => by cases e)
  obtain ⟨b0, cap0, hv0, hb0, hn0, hm0, hR0⟩ := RowC.ofRow (l := []) hown0 (by simp)
  have hq : b0 = w.heap.size ∧ cap0 = s.size / 9 + 1 := by injection hv0 with h1 h2 h3; injection h1 with h1; injection h1 with h1; exact ⟨h1.symm, h3.symm⟩
  obtain ⟨rfl, rfl⟩ := hq
  clear hv0 hown0 hg0
  go_loopw [3, 4] (fun ov iv wr => ∃ (i : Nat) (out : List Nat) (b cap : Nat), i ≤ s.size ∧ iv = .int .i64 i ∧ ov = .slice (some ⟨b, 0, none⟩) out.length cap ∧ w.heap.size ≤ b ∧ out.length ≤ i ∧ out.length ≤ cap ∧ cap ≤ 9223372036854775807 ∧ Hid (Dg out) ∧ Hid (val out = decv (s.data.toList.take i)) ∧ RowC wr b out cap ∧ Below w.heap.size w wr) (fun _ iv _ => s.size - (intOf iv).toNat)
  case atStart => exact ⟨0, [], _, _, by omega, rfl, rfl, Nat.le_refl _, by simp, by simp, by unfold maxLen at hm0; exact hm0, Dg.nil, Lib.hid rfl, hR0, hB0⟩
  case round =>
    clear hR0 hB0
    obtain ⟨i, out, b, cap, hi, rfl, rfl, hb, hoi, hoc, hcap, HDo, HV, hR, hBr⟩ := hrel
    by_cases hlt : i < s.size
    · obtain ⟨n, hn⟩ : ∃ n, (s.size - i - 1) % 9 + 1 = n := ⟨_, rfl⟩
      have hn1 : 1 ≤ n := by omega
      have hn9 : n ≤ 9 := by omega
      have hin : i + n ≤ s.size := by omega
      have hnI : ((s.size : Int) - (i : Int) - 1) % 9 + 1 = (n : Int) := by omega
      clear hn
      have HEL := Lib.hid (ext_list s i n)
      have hes := ext_size s i n hin
      have HES := Lib.hid hes
      clear hes
      go_wp2_with (refine wpList_bytes_of_string rfl _ 9 188 5 rfl Tryz.underlying9 Tryz.underlying188 Tryz.underlying5 (s.extract i (i + n)) rfl ?_ ?_; rotate_left 1; intro cap1 W1 hS1 hB1 hlt1)
      case refine_1 => rw [HES.out]; unfold maxLen; omega
      have HC : Hid (((s.data.toList.drop i).take n).length = n) := by
        have : ((s.data.toList.drop i).take n).length = n := by rw [List.length_take, List.length_drop, HL.out]; omega
        exact this
      have HCd := Lib.hid ((HD.out.drop i).take n)
      have HCV := Lib.hid (decv_take_add s.data.toList i n (by rw [HL.out]; exact hin))
      rw [HEL.out] at hS1
      rw [HES.out] at hS1
      have hR1 := hR.ext hB1
      have hBr1 := ext_trans hBr hB1
      clear HEL HES hR hBr hlt1
      generalize (s.data.toList.drop i).take n = C at *
      generalize wr.heap.size = bc at *
      go_wp2
      go_loop [6, 7, 36] (fun pv bv kv => ∃ k p bs : Nat, k ≤ n ∧ kv = .int .i64 k ∧ pv = .int .u64 p ∧ bv = .int .u64 bs ∧ p < bs ∧ bs ≤ 1000000000 ∧ Hid (bs = 10 ^ k) ∧ Hid (p = decv (C.take k))) (fun _ _ kv => n - (intOf kv).toNat)
      case atStart => exact ⟨0, 0, 1, by omega, rfl, rfl, rfl, by omega, by omega, Lib.hid rfl, Lib.hid rfl⟩
      case round =>
        obtain ⟨k, p, bs, hk, rfl, rfl, rfl, hpb, hbs, HBS, HP⟩ := hrel
        by_cases hkn : k < n
        · have hkC : k < C.length := by have := HC.out; omega
          obtain ⟨_, _, hq, e0⟩ := sl_addr hS1 (bcells_get _ _ hkC)
          cases hq
          rw [Nat.zero_add] at e0
          have hc := HCd.out C[k] (List.getElem_mem hkC)
          have HT : Hid (decv (C.take (k + 1)) = p * 10 + digv C[k]) := by
            have : decv (C.take (k + 1)) = p * 10 + digv C[k] := by rw [List.take_succ_eq_append_getElem hkC, decv_snoc, HP.out]
            exact this
          have HBS2 : Hid (bs * 10 = 10 ^ (k + 1)) := by
            have : bs * 10 = 10 ^ (k + 1) := by rw [HBS.out, Nat.pow_succ]
            exact this
          have hb8 : bs ≤ 100000000 := by
            rw [HBS.out]
            have := Nat.pow_le_pow_right (show 0 < 10 by decide) (show k ≤ 8 by omega)
            simpa using this
          have HDV : Hid (digv C[k] = C[k].toNat - 48) := Lib.hid rfl
          generalize digv C[k] = dg at *
          generalize C[k].toNat = c0 at *
          obtain ⟨hc1, hc2⟩ := hc
          have hdg : dg = c0 - 48 := HDV.out
          have hdgI : (c0 : Int) - 48 = (dg : Int) := by omega
          have hdg9 : dg ≤ 9 := by omega
          clear hdg HDV
          go_wp2
          go_round
          case rel => exact ⟨k + 1, p * 10 + dg, bs * 10, by omega, by go_num, by go_num, by go_num, by omega, by omega, HBS2, Lib.hid HT.out.symm⟩
          case measure => simp [intOf]; omega
        · obtain rfl : k = n := by omega
          have HP2 : Hid (p = decv C) := by have := HP.out; rw [List.take_of_length_le (by rw [HC.out]; exact Nat.le_refl _)] at this; exact this
          have HZ : Hid (val (out.take 0) + B ^ 0 * p = val (out.take 0) * bs + p) := by
            have : val (out.take 0) + B ^ 0 * p = val (out.take 0) * bs + p := by simp [val]
            exact this
          clear HP hS1
          go_wp2
          go_loopw [10, 55] (fun cv qv wr => ∃ (q cr : Nat) (S : List Nat), q ≤ out.length ∧ qv = .int .i64 q ∧ cv = .int .u64 cr ∧ cr ≤ 1000000000 ∧ Hid (S.length = out.length) ∧ Hid (Dg S) ∧ Hid (S.drop q = out.drop q) ∧ Hid (val (S.take q) + B ^ q * cr = val (out.take q) * bs + p) ∧ RowC wr b S cap ∧ Below w.heap.size w wr) (fun _ qv _ => out.length - (intOf qv).toNat)
          case atStart => exact ⟨0, p, out, by omega, rfl, rfl, by omega, Lib.hid rfl, HDo, Lib.hid rfl, HZ, hR1, hBr1⟩
          case round =>
            clear HZ hR1 hBr1
            obtain ⟨q, cr, S, hq, rfl, rfl, hcr, HSl, HSd, HSr, HI2, hR2, hBr2⟩ := hrel
            by_cases hlq : q < out.length
            · have hqS : q < S.length := by have := HSl.out; omega
              have o0 := hR2.own.cell hqS
              have o1 := hR2.own.frozen q
              obtain ⟨hXe, hSr2⟩ := drop_get HSr.out hqS hlq
              have hX := HDo.out.get hlq
              have hV1 := val_take_succ out q hlq
              rw [hXe] at o0
              have HSr2 : ∀ z, Hid ((S.set q z).drop (q + 1) = out.drop (q + 1)) := fun z => by
                have : (S.set q z).drop (q + 1) = out.drop (q + 1) := by rw [List.drop_set_of_lt (by omega)]; exact hSr2
                exact this
              generalize out[q] = X at *
              rw [B_eq] at hX
              have hm1 : (X : Int) * (bs : Int) ≤ 4294967295000000000 ∧ 0 ≤ (X : Int) * (bs : Int) := by
                have h : X * bs ≤ 4294967295 * 1000000000 := Nat.mul_le_mul (by omega) hbs
                have h2 : ((X * bs : Nat) : Int) = (X : Int) * (bs : Int) := Int.natCast_mul _ _
                omega
              obtain ⟨hm2, hm3⟩ := hm1
              have HM := Lib.hid (Int.natCast_mul X bs)
              have HR := Lib.hid (read_step (o := X) HI2.out)
              rw [← val_take_set S q _ hqS, ← hV1, ← Nat.pow_succ] at HR
              have HD3 := HSr2 ((cr + X * bs) % 4294967296)
              clear HSr2 hSr2 hXe hV1 HI2
              go_wp2
              go_roundw
              case rel => exact ⟨q + 1, (cr + X * bs) / 4294967296, S.set q ((cr + X * bs) % 4294967296), by omega, by go_num, by rw [← HM.out]; go_num, by have := HM.out; omega, Hid.len_set HSl _ _, Hid.dg_set HSd _ (Nat.mod_lt _ B_pos), HD3, HR, hR2.set' hqS _ (by rw [← HM.out]; omega), hBr2.setCell hb _⟩
              case measure => simp [intOf]; omega
            · obtain rfl : q = out.length := by omega
              have HV2 : Hid (val S + B ^ S.length * cr = decv (s.data.toList.take (i + k))) := by
                have h1 := HI2.out
                rw [List.take_of_length_le (by rw [HSl.out]; exact Nat.le_refl _), List.take_length, HV.out, HBS.out, HP2.out, ← HCV.out, ← HSl.out] at h1
                exact h1
              have hSl : S.length = out.length := HSl.out
              rw [← hSl] at hoi hoc ⊢
              have HHR := Lib.hid hR2
              clear hSl hlq hq HI2 HSr HSl HDo HV HCV HP2 HBS HC HCd
              by_cases hc0 : 0 < cr
              · have hrow := hR2.row (base := w.heap.size) hb hoc (by unfold maxLen; exact hcap)
                have hrow2 := hrow.alloc (Obj.cells (wcs [cr]).toArray 189)
                have hsl := (Own.new wr [cr]).sl (c := 1) (by simp) (by decide)
                have hgb : Below w.heap.size w (wr.alloc (Obj.cells (wcs [cr]).toArray 189)) := ext_trans hBr2 (by go_grown)
                have hc0B : ((cr : Int) > 0) := by omega
                go_wp2_with (at_builtin; refine wpList_append_sl rfl _ _ 90 rfl w.heap.size 189 Tryz.underlying90 HB.out rfl (by decide) rfl hrow2 rfl hsl ?c1 (wcs_one _) ?c2 ?c3 ?c4 ?_; rotate_left 4; intro v2 w2 hown2 hg2 hv2)
                case c1 => rfl
                case c2 => simp; unfold maxLen; omega
                case c3 => simp; omega
                case c4 => simp; have := hBr2.size; omega
                have hb2 : Below w.heap.size w w2 := Below.grown hgb hg2 hgb.size (fun k e => by cases e; exact hb)
                have ew : wcs S ++ wcs [cr] = wcs (S ++ [cr]) := by simp [wcs]
                rw [ew] at hown2
                obtain ⟨g, cap2, rfl, h1, h2, h3, h4⟩ := RowC.ofRow hown2 (fun e => by have := hv2.1 e; simp at this)
                have HV3 : Hid (val (S ++ [cr]) = decv (s.data.toList.take (i + k))) := by
                  have h1 := HV2.out
                  have : val (S ++ [cr]) = decv (s.data.toList.take (i + k)) := by rw [val_append]; simpa [val] using h1
                  exact this
                have HD3 : Hid (Dg (S ++ [cr])) := HSd.out.append (Dg.cons.2 ⟨by rw [B_eq]; omega, Dg.nil⟩)
                have HLL : Hid ((S ++ [cr]).length = S.length + 1) := by have : (S ++ [cr]).length = S.length + 1 := by simp
                                                                         exact this
                clear hrow hrow2 hsl hgb ew hown2 hg2 hv2 HHR hR2
                unfold maxLen at h3
                go_wp2
                go_roundw
                case rel => exact ⟨i + k, S ++ [cr], g, cap2, by omega, by go_num, by rw [HLL.out]; rfl, h1, by rw [HLL.out]; omega, by rw [HLL.out]; exact h2, h3, HD3, HV3, h4, hb2⟩
                case measure => simp [intOf]; omega
              · obtain rfl : cr = 0 := by omega
                have HV3 : Hid (val S = decv (s.data.toList.take (i + k))) := by
                  have h1 := HV2.out
                  rw [Nat.mul_zero, Nat.add_zero] at h1
                  exact h1
                clear HV2
                go_wp2
                go_roundw
                case rel => exact ⟨i + k, S, b, cap, by omega, by go_num, rfl, hb, by omega, hoc, hcap, HSd, HV3, HHR.out, hBr2⟩
                case measure => simp [intOf]; omega
    · obtain rfl : i = s.size := by omega
      have HV2 : Hid (val out = decv s.data.toList) := by
        have := HV.out
        rw [List.take_of_length_le (by rw [HL.out]; exact Nat.le_refl _)] at this
        exact this
      clear HV
      go_wp2_with fail
      have hT := trim_at out HDo.out _ _ (hR.own.sl (c := cap) hoc (by unfold maxLen; exact hcap))
      rw [HV2.out] at hT
      refine Calls.mono hT ?_
      rintro e w' ⟨v, rfl, hv, rfl⟩
      clear hT
      go_wp2
      go_ret
      exact ⟨_, rfl, hv, hBr⟩
end Nm
end Go.Proofs.YtilolnjbpokdnaaGreatDoor
namespace Go.Proofs.YtilolnjbpokdnaaGreatDoor
open Go.RowKit
namespace Nm
def CutPost (w : World) (s : ByteArray) (e : Ending) (w' : World) : Prop := e = .returned (.tuple #[.string (cutS s), .bool (cutB s.data.toList)]) ∧ w = w'
set_option maxHeartbeats 2000000 in
theorem liteCut_at (s : ByteArray) (hs : s.size ≤ maxLen) (w : World) : Calls Tryz.prog 211 #[.string s, .string ⟨#[45]⟩] w (CutPost w s) := by
  have hs' := hs
  unfold maxLen at hs'
  by_cases h : cutB s.data.toList = true
  · have h1 : 1 ≤ s.size := by
      rcases Nat.lt_or_ge s.size 1 with h2 | h2
      · have := cut_none s h2; rw [h] at this; cases this
      · exact h2
    have HE : Hid (s.extract 1 s.size = cutS s) := by
      have : s.extract 1 s.size = cutS s := by unfold cutS; rw [if_pos h]
      exact this
    have HH := Lib.hid h
    go_enter Tryz.func211, Tryz.ntmps211
    go_wp2_with fail
    refine (hasPrefix_at s hs w).mono ?_
    rw [h]
    rintro e w' ⟨rfl, rfl⟩
    clear h
    go_wp2
    go_ret2
    refine ⟨?_, rfl⟩
    rw [HH.out, ← HE.out]; rfl
  · have hf : cutB s.data.toList = false := by simpa using h
    have HE : Hid (s = cutS s) := by
      have : s = cutS s := by unfold cutS; rw [if_neg h]
      exact this
    have HH := Lib.hid hf
    go_enter Tryz.func211, Tryz.ntmps211
    go_wp2_with fail
    refine (hasPrefix_at s hs w).mono ?_
    rw [hf]
    rintro e w' ⟨rfl, rfl⟩
    clear h hf
    go_wp2
    go_ret2
    refine ⟨?_, rfl⟩
    rw [HH.out, ← HE.out]; rfl
theorem cutPrefix_at (s : ByteArray) (hs : s.size ≤ maxLen) (w : World) : Calls Tryz.prog 179 #[.string s, .string ⟨#[45]⟩] w (CutPost w s) := by
  go_enter Tryz.func179, Tryz.ntmps179
  go_wp2_with fail
  refine (liteCut_at s hs w).mono ?_
  rintro e w' ⟨rfl, rfl⟩
  go_wp2
  go_ret2
  exact ⟨rfl, rfl⟩
def OfPost (w : World) (n d : ByteArray) (e : Ending) (w' : World) : Prop := ∃ v, e = .returned (.tuple #[v, .int .i64 (rF n d)]) ∧ (rF n d = 0 → XR w' v (rQ n d)) ∧ (rF n d ≠ 0 → v = .agg zeroX) ∧ Below w.heap.size w w'
end Nm
end Go.Proofs.YtilolnjbpokdnaaGreatDoor
