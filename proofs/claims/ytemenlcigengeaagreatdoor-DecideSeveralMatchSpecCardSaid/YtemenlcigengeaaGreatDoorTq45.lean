/- Digits of package value: the numeral of a number. Ratio of package value: an exact number as texts. Numbers as lists of digits to the base 10^9, the least one first: plain mathematics, no program stands in it. plus, minus of the reference's natural numbers. Sum, Product, Inverse of package value. -/
import Derived.Test.YtemenlcigengeaaGreatDoorTq16
import Derived.Test.YtemenlcigengeaaGreatDoorTq44
import Derived.Test.YtemenlcigengeaaGreatDoorTq05
import Derived.Test.YtemenlcigengeaaGreatDoorTq40
import Derived.Test.YtemenlcigengeaaGreatDoorTq06
import Derived.Test.YtemenlcigengeaaGreatDoorTq03
import Derived.Test.YtemenlcigengeaaGreatDoorTq07
import Derived.Test.YtemenlcigengeaaGreatDoorProg
import Derived.Test.YtemenlcigengeaaGreatDoorTq00
import Derived.Test.YtemenlcigengeaaGreatDoorTq08
import Derived.Laws.BytesString
import Derived.Test.YtemenlcigengeaaGreatDoorTq23
import Derived.Lib.Hide
import Derived.Test.YtemenlcigengeaaGreatDoorTq24
import Derived.Test.YtemenlcigengeaaGreatDoorTq41
import Derived.Test.YtemenlcigengeaaGreatDoorTq32
import Derived.Test.YtemenlcigengeaaGreatDoorTq17
import Derived.Test.YtemenlcigengeaaGreatDoorTq18
import Derived.Test.YtemenlcigengeaaGreatDoorTq19
namespace Go.Proofs.YtemenlcigengeaaGreatDoor
open Go.RowKit
namespace Nm
theorem u8_info' : (Tryz.prog.info? 5).map (fun i => (i.zero, i.size, i.bytes)) = some (some (.int .u8 0), 1, 1) := by kernel_rfl
/-- string(bytes) -/
theorem bytes_fold (l : List UInt8) : ∀ s : ByteArray, (l.map fun c => (c.toNat : Int)).foldl (fun r n => r.push (UInt8.ofNat n.toNat)) s = ⟨s.data ++ l.toArray⟩ := by
  induction l with
  | nil => intro s; simp
  | cons c l ih =>
    intro s
    simp only [List.map_cons, List.foldl_cons]
    rw [ih]
    simp [ByteArray.push]
def DPost (w : World) (x : Nat) (e : Ending) (w' : World) : Prop := e = .returned (.string (strOf (decS x))) ∧ Below w.heap.size w w'
def SmallOwn (w : World) (q r : Nat) (e : Ending) (w' : World) : Prop := ∃ b c out, e = .returned (.tuple #[.slice (some ⟨b, 0, none⟩) (wlen q) c, .int .u32 (r : Int)]) ∧ out.length ≤ c ∧ c ≤ maxLen ∧ Dg out ∧ val out = q ∧ Own w' b out ∧ Below w.heap.size w w'
set_option maxHeartbeats 8000000 in
theorem small_own (x n : Nat) (v : Value) (w : World) (hx : N w v x) (hxl : wlen x ≤ 1000000000) (hn : 0 < n) (hn2 : n < 4294967296) : Calls Tryz.prog 105 #[v, .int .u32 (n : Int)] w (SmallOwn w (x / n) (x % n)) := by
  obtain ⟨a, c, rfl, s1⟩ := hx.open_
  obtain ⟨p1, p2⟩ := sl_caps s1
  have HX := Lib.hid (digs_dg x)
  unfold wlen at hxl
  clear hx
  go_enter Tryz.func105, Tryz.ntmps105
  go_wp2_with (refine wpList_make_words rfl _ _ rfl (digs x).length rfl rfl ?_ ?_ ?_; rotate_left 2; intro W hO hB hsz)
  case refine_1 => go_num
  case refine_2 => omega
  clear hsz
  have HZ : Hid (val ((digs x).drop (digs x).length) = val ((List.replicate (digs x).length 0).drop (digs x).length) * n + 0) := by
    have : val ((digs x).drop (digs x).length) = val ((List.replicate (digs x).length 0).drop (digs x).length) * n + 0 := by simp [val]
    exact this
  go_loopw [7, 8] (fun rv iv wr => ∃ (k r : Nat) (out : List Nat), k ≤ (digs x).length ∧ iv = .int .i64 ((k : Int) - 1) ∧ rv = .int .u64 r ∧ r < n ∧ Hid (out.length = (digs x).length) ∧ Hid (Dg out) ∧ Hid (val ((digs x).drop k) = val (out.drop k) * n + r) ∧ Own wr w.heap.size out ∧ Below w.heap.size w wr) (fun _ iv _ => (intOf iv + 1).toNat)
  case atStart => exact ⟨(digs x).length, 0, List.replicate (digs x).length 0, Nat.le_refl _, rfl, rfl, hn, by have := @List.length_replicate Nat (digs x).length 0; exact this, Dg.zeros _, HZ, hO, hB⟩
  case round =>
    obtain ⟨k, r, out, hk, rfl, rfl, hr, HL, HDo, HV, hOk, hBk⟩ := hrel
    cases k with
    | zero =>
      have HF : Hid (val out = x / n ∧ r = x % n) := by
        have h1 := HV.out
        rw [List.drop_zero, List.drop_zero, val_digs] at h1
        have : val out = x / n ∧ r = x % n := by
          constructor
          · rw [h1, Nat.add_comm, Nat.add_mul_div_right _ _ hn, Nat.div_eq_of_lt hr, Nat.zero_add]
          · rw [h1, Nat.add_comm, Nat.add_mul_mod_self_right, Nat.mod_eq_of_lt hr]
        exact this
      clear HV
      go_wp2_with fail
      have hs := hOk.sl (c := (digs x).length) (by rw [HL.out]; omega) (by unfold maxLen; omega)
      have hT := trim_keep out HDo.out _ _ _ hs
      rw [HL.out] at hT
      refine Calls.mono hT ?_
      rintro e w' ⟨rfl, hv, rfl⟩
      clear hT hs
      go_wp2
      go_ret2
      rw [← HF.out.1, ← HF.out.2]
      exact ⟨w.heap.size, (digs x).length, out, rfl, by rw [HL.out]; exact Nat.le_refl _, by unfold maxLen; omega, HDo.out, rfl, hOk, hBk⟩
    | succ j =>
      have hlt : j < (digs x).length := by omega
      obtain ⟨b, o, rfl, e0⟩ := sl_addr (s1.ext hBk) (wcs_get hlt)
      have hX := HX.out.get hlt
      have hko : j < out.length := by have := HL.out; omega
      have o0 := hOk.cell hko
      have o1 := hOk.frozen j
      have HV1 := Lib.hid (val_drop (digs x) j hlt)
      rw [show (((j + 1 : Nat) : Int) - 1) = (j : Int) by omega]
      generalize (digs x)[j] = X at *
      rw [B_eq] at hX
      obtain ⟨q, r', hdv, hr', hq, t1, t2, t3, t4⟩ := div_word hr hX
      have HR : Hid (val ((digs x).drop j) = val ((out.set j q).drop j) * n + r') := by
        have : val ((digs x).drop j) = val ((out.set j q).drop j) * n + r' := by
          rw [HV1.out, drop_set out j q hko]
          exact small_step HV.out hdv
        exact this
      have hor := or64 (r := r) (X := X) (by omega) hX
      clear HV HV1 hdv
      go_wp2
      go_roundw
      case rel => exact ⟨j, r', out.set j q, by omega, rfl, rfl, hr', Hid.len_set HL _ _, Hid.dg_set HDo _ hq, HR, hOk.set' hko _ (by omega), hBk.setCell (Nat.le_refl _) _⟩
      case measure => simp [intOf]
theorem chunk_bound {x j : Nat} (h : 10 ^ (9 * j) ≤ x) : j < 2 * wlen x := by
  have h1 := lt_pow_wlen x
  have h2 : B ^ wlen x ≤ (10 ^ 9 * 10 ^ 9) ^ wlen x := Nat.pow_le_pow_left (by decide) _
  have h3 : (10 ^ 9 * 10 ^ 9) ^ wlen x = (10 ^ 9) ^ (2 * wlen x) := by rw [Nat.pow_mul]
  rw [Nat.pow_mul] at h
  have h4 : (10 ^ 9) ^ j < (10 ^ 9) ^ (2 * wlen x) := by
    rw [← h3]; exact Nat.lt_of_le_of_lt h (Nat.lt_of_lt_of_le h1 h2)
  exact (Nat.pow_lt_pow_iff_right (by decide)).1 h4
theorem pad_chunk (j x g : Nat) (hg : g = x / 10 ^ (9 * j)) : pad (9 * j) x ++ pad 9 (g % 1000000000) = pad (9 * (j + 1)) x ∧ g / 1000000000 = x / 10 ^ (9 * (j + 1)) := by
  subst hg
  constructor
  · have := pad_mod 9 (x / 10 ^ (9 * j))
    rw [show (10 : Nat) ^ 9 = 1000000000 by decide] at this
    rw [this, Nat.mul_add, pad_add]
  · rw [Nat.div_div_eq_div_mul, Nat.mul_add, Nat.pow_add, show (10 : Nat) ^ (9 * 1) = 1000000000 by decide]
theorem conv_str (l : List UInt8) (b c : Nat) (w : World) (h : OwnB w b l) : (convert 135 9 (.slice (some ⟨b, 0, none⟩) l.length c)).run Tryz.prog w = .ok (.string (strOf l)) w := by
  rw [run_convert_bytes_string w 135 9 5 _ _ _ Tryz.underlying135 Tryz.underlying5 Tryz.underlying9]
  have hl := run_loadCells_list (P := Tryz.prog) (w := w) ⟨b, 0, none⟩ (bcells l) (fun j v hv => by
    have hj : j < l.length := by have := (List.getElem?_eq_some_iff.1 hv).1; rwa [bcells_length] at this
    rw [add_spot, Nat.zero_add, h.cell hj]
    rw [bcells_get _ _ hj] at hv
    exact hv)
  rw [bcells_length] at hl
  rw [run_bytesToString w ⟨b, 0, none⟩ l.length c (l.map fun c => (c.toNat : Int)) (by rw [hl]; simp [bcells]), bytes_fold]
  simp [strOf]
theorem digits_zero (v : Value) (w : World) (hx : N w v 0) : Calls Tryz.prog 78 #[v] w (DPost w 0) := by
  obtain ⟨a, c, rfl, s1⟩ := hx.open_
  rw [show (digs 0).length = 0 from wlen_zero]
  clear hx s1
  go_enter Tryz.func78, Tryz.ntmps78
  go_wp2
  go_ret
  refine ⟨?_, Below.refl _ _⟩
  rw [decS_small (by decide)]; rfl
set_option maxRecDepth 100000 in
set_option maxHeartbeats 16000000 in
theorem digits_pos (x : Nat) (h0 : 0 < x) (v : Value) (w : World) (hx : N w v x) (hxl : wlen x ≤ 100000000) : Calls Tryz.prog 78 #[v] w (DPost w x) := by
  have HX := Lib.hid hx
  have HB := Lib.hid u8_info'
  have HX0 : Hid (x = x / 10 ^ (9 * 0)) := by
    have : x = x / 10 ^ (9 * 0) := by simp
    exact this
  obtain ⟨a, c, rfl, s1⟩ := hx.open_
  have hl : 0 < (digs x).length := by have := @wlen_eq_zero x; show 0 < wlen x; omega
  have hne : (((digs x).length : Int) == 0) = false := beq_eq_false_iff_ne.2 (by omega)
  clear hx s1
  go_enter Tryz.func78, Tryz.ntmps78
  go_wp2
  go_loopg [0, 3] x (fun g s0 s3 wr => ∃ (j : Nat) (v3 : Value), v3 = s3 ∧ N wr s0 g ∧ Hid (g = x / 10 ^ (9 * j)) ∧ 9 * j ≤ 10000000000 ∧ wr.ownsRow w.heap.size 5 1 v3 (9 * j) (bcells (pad (9 * j) x)) ∧ Below w.heap.size w wr)
  case atStart => exact ⟨0, _, rfl, HX.out, HX0, by omega, World.ownsRow_nil _ _ _ _, Below.refl _ _⟩
  case round =>
    obtain ⟨j, v3, rfl, hN, HG, hj, hown, hb⟩ := hrel
    have HN := Lib.hid hN
    obtain ⟨a, c, rfl, s1⟩ := hN.open_
    clear hN s1
    by_cases hg : 0 < gk
    · have hgl : 0 < (digs gk).length := by have := @wlen_eq_zero gk; show 0 < wlen gk; omega
      have hjb : j < 2 * wlen x := chunk_bound (by
        have := HG.out
        rw [this] at hg
        have h2 := Nat.div_pos_iff.1 hg
        exact h2.2)
      have hgw : wlen gk ≤ 1000000000 := by
        have h1 : gk ≤ x := by rw [HG.out]; exact Nat.div_le_self _ _
        have := wlen_mono h1
        omega
      have HPC := Lib.hid (pad_chunk j x gk HG.out)
      go_wp2_with fail
      refine (small_own gk 1000000000 _ wr HN.out hgw (by decide) (by decide)).mono ?_
      rintro e w1 ⟨bq, cq, out, rfl, ho1, ho2, hod, hov, hO, hb1⟩
      have hown1 : w1.ownsRow w.heap.size 5 1 v3 (9 * j) (bcells (pad (9 * j) x)) := by
        refine hown.kept (row := none) ⟨hb1.os, hb1.tape, hb1.output, hb1.size, fun i hi _ => hb1.block i hi⟩ ?_
        cases h : v3.ownBlock with
        | none => exact .inl rfl
        | some _ => exact .inr (by simp)
      have hbb := ext_trans hb hb1
      have hr : gk % 1000000000 < 1000000000 := Nat.mod_lt _ (by decide)
      have HOD := Lib.hid hod
      have HOV := Lib.hid hov
      have HO1 := Lib.hid ho1
      have HO2 := Lib.hid ho2
      clear hown hb hb1 HN hod hov ho1 ho2
      generalize gk % 1000000000 = r at *
      have HR0 : Hid (r = r / 10 ^ 0) := by
        have : r = r / 10 ^ 0 := by simp
        exact this
      go_wp2
      go_loopw [3, 4, 16] (fun s3' s4 s16 wr => ∃ (t rt : Nat) (v4 : Value), v4 = s3' ∧ t ≤ 9 ∧ s16 = .int .i64 t ∧ s4 = .int .u32 rt ∧ rt < 1000000000 ∧ Hid (rt = r / 10 ^ t) ∧ wr.ownsRow w.heap.size 5 1 v4 (9 * j + t) (bcells (pad (9 * j) x ++ pad t r)) ∧ Own wr bq out ∧ Below w.heap.size w wr) (fun _ _ s16 _ => 9 - (intOf s16).toNat)
      case atStart => exact ⟨0, r, _, rfl, by omega, rfl, rfl, hr, HR0, by simpa [pad] using hown1, hO, hbb⟩
      case round =>
        clear hown1 hO hbb HR0
        obtain ⟨t, rt, v4, rfl, ht, rfl, rfl, hrt, HRT, hown, hO, hbb⟩ := hrel
        by_cases htn : t < 9
        · have hrow2 := hown.alloc (Obj.cells (bcells [dch (rt % 10)]).toArray 5)
          have hO2 := hO.alloc (Obj.cells (bcells [dch (rt % 10)]).toArray 5)
          have hsl : Sl (wr.alloc (Obj.cells (bcells [dch (rt % 10)]).toArray 5)) (.slice (some ⟨wr.heap.size, 0, none⟩) 1 1) 1 (bcells [dch (rt % 10)]) := (show OwnB (wr.alloc (Obj.cells (bcells [dch (rt % 10)]).toArray 5)) wr.heap.size [dch (rt % 10)] from ⟨_, [], heap_alloc_new wr _, by simp⟩).sl (c := 1) (by simp) (by decide)
          have hgb : Below w.heap.size w (wr.alloc (Obj.cells (bcells [dch (rt % 10)]).toArray 5)) := ext_trans hbb (by go_grown)
          have eobj : (Obj.cells (bcells [dch (rt % 10)]).toArray 5) = Obj.cells #[Value.int .u8 (48 + (rt : Int) % 10)] 5 := by
            have h1 := dch_toNat (Nat.mod_lt rt (show 10 > 0 by decide))
            simp only [bcells, List.map_cons, List.map_nil, h1]
            congr 3
          rw [eobj] at hrow2 hO2 hsl hgb
          have HRT2 : Hid (rt / 10 = r / 10 ^ (t + 1)) := by
            have : rt / 10 = r / 10 ^ (t + 1) := by rw [HRT.out, Nat.div_div_eq_div_mul, Nat.pow_succ]
            exact this
          have HPS : Hid (bcells (pad (9 * j) x ++ pad t r) ++ bcells [dch (rt % 10)] = bcells (pad (9 * j) x ++ pad (t + 1) r)) := by
            have : bcells (pad (9 * j) x ++ pad t r) ++ bcells [dch (rt % 10)] = bcells (pad (9 * j) x ++ pad (t + 1) r) := by rw [← bcells_append, pad_snoc, List.append_assoc, HRT.out]
            exact this
          clear eobj
          go_wp2_with (at_builtin; refine wpList_append_sl rfl _ _ 135 rfl w.heap.size 5 Tryz.underlying135 HB.out rfl (by decide) rfl hrow2 rfl hsl ?c1 (bcells_one _) ?c2 ?c3 ?c4 ?_; rotate_left 4; intro v2 w2 hown2 hg2 hv2)
          case c1 => rfl
          case c2 => unfold maxLen; omega
          case c3 => omega
          case c4 => exact hgb.size
          rw [HPS.out] at hown2
          have hO3 := hO2.row hrow2 hg2
          have hb2 : Below w.heap.size w w2 := Below.grown hgb hg2 hgb.size (fun k e => by
            obtain ⟨_, ⟨h2, _⟩ | ⟨g, cap, cur, hv, hbg, _⟩⟩ := hown
            · subst h2; cases e
            · subst hv; cases e; exact hbg)
          clear hrow2 hO2 hsl hgb hg2 hv2 hown hO
          go_wp2
          go_roundw
          case rel => exact ⟨t + 1, rt / 10, _, rfl, by omega, by go_num, by go_num, by omega, HRT2, hown2, hO3, hb2⟩
          case measure => simp [intOf]; omega
        · obtain rfl : t = 9 := by omega
          have hown2 : wr.ownsRow w.heap.size 5 1 v4 (9 * (j + 1)) (bcells (pad (9 * (j + 1)) x)) := by
            have := hown
            rw [HPC.out.1] at this
            exact this
          clear hown
          go_wp2
          go_roundg (gk / 1000000000)
          case measure => exact Nat.div_lt_self hg (by decide)
          case rel => exact ⟨j + 1, _, rfl, by have := hO.num HOD.out HO1.out HO2.out; rw [HOV.out] at this; exact this, HPC.out.2, by omega, hown2, hbb⟩
    · obtain rfl : gk = 0 := by omega
      have hgl : (digs 0).length = 0 := wlen_zero
      rw [hgl]
      have HXL : Hid (x < 10 ^ (9 * j)) := by
        have h1 := HG.out
        have h2 := Nat.div_eq_zero_iff.1 h1.symm
        have : x < 10 ^ (9 * j) := by
          rcases h2 with h2 | h2
          · exact absurd h2 (Nat.ne_of_gt (Nat.pow_pos (by decide)))
          · exact h2
        exact this
      have hj0 : 0 < j := by
        rcases Nat.eq_zero_or_pos j with h | h
        · have := HXL.out; rw [h] at this; simp at this; omega
        · exact h
      obtain ⟨m, hm⟩ : ∃ m, 9 * j = m + 1 := ⟨9 * j - 1, by omega⟩
      have HDV := Lib.hid (decv_pad (9 * j) x HXL.out)
      have HPL := Lib.hid (pad_length (9 * j) x)
      have HPD := Lib.hid (pad_digs (9 * j) x)
      obtain ⟨g, cap, rfl, hgb, hgc, hcm, hOB⟩ := OwnB.ofRow hown (by omega)
      unfold maxLen at hcm
      generalize pad (9 * j) x = P at *
      rw [hm] at HPL hgc ⊢
      have HST : Hid (decv (P.take (m + 1)).reverse = x) := by
        have : decv (P.take (m + 1)).reverse = x := by rw [List.take_of_length_le (by rw [HPL.out]; exact Nat.le_refl _)]; exact HDV.out
        exact this
      have hmb : m ≤ 10000000000 := by omega
      clear hown HG hgl HDV HXL hm HN hj
      go_wp2
      go_loop [3] (fun s3 => ∃ k : Nat, k ≤ m ∧ s3 = .slice (some ⟨g, 0, none⟩) (k + 1) cap ∧ Hid (decv (P.take (k + 1)).reverse = x)) (fun t => match t with | .slice _ k _ => k | _ => 0)
      case atStart => exact ⟨m, Nat.le_refl _, rfl, HST⟩
      case round =>
        clear HST
        obtain ⟨k, hk, rfl, HV⟩ := hrel
        have hkP : k < P.length := by have := HPL.out; omega
        have e0 := hOB.cell hkP
        by_cases hz : P[k].toNat = 48
        · have HV2 := Lib.hid (take_rev P k hkP hz x HV.out)
          rw [hz] at e0
          clear hz
          cases k with
          | zero =>
            exfalso
            have := HV2.out
            simp [decv] at this
            omega
          | succ k =>
            go_wp2
            go_round
            case rel => exact ⟨k, by omega, by go_num, HV2⟩
            case measure => simp
        · have HR := Lib.hid (strip_end HPD.out hkP hz HV.out)
          have hzb : ((P[k].toNat : Int) == 48) = false := beq_eq_false_iff_ne.2 (by omega)
          have HLL : Hid ((P.take (k + 1)).length = k + 1) := by
            have : (P.take (k + 1)).length = k + 1 := by rw [List.length_take]; omega
            exact this
          have hrv := reverse_at (P.take (k + 1)) (by rw [HLL.out]; omega) (by rw [HLL.out]; omega) g cap wr (hOB.take (k + 1))
          rw [HLL.out] at hrv
          have HRV := Lib.hid hrv
          clear hz hrv
          go_wp2_with fail
          refine HRV.out.mono ?_
          rintro e w2 ⟨rfl, hO2, hg2⟩
          have hcv := conv_str _ g cap w2 hO2
          rw [List.length_reverse, HLL.out, HR.out] at hcv
          have hb2 : Below w.heap.size w w2 := hb.grown hg2 hb.size (fun k e => by cases e; exact hgb)
          go_wp2
          go_ret
          exact ⟨rfl, hb2⟩
theorem digits_at (x : Nat) (v : Value) (w : World) (hx : N w v x) (hxl : wlen x ≤ 100000000) : Calls Tryz.prog 78 #[v] w (DPost w x) := by
  rcases Nat.eq_zero_or_pos x with rfl | h
  · exact digits_zero v w hx
  · exact digits_pos x h v w hx hxl
end Nm
end Go.Proofs.YtemenlcigengeaaGreatDoor
namespace Go.Proofs.YtemenlcigengeaaGreatDoor
open Go.RowKit
namespace Nm
def OutPost (w : World) (q : Rat) (e : Ending) (w' : World) : Prop := e = .returned (.tuple #[.agg #[.string (outN q), .string (outD q)], .int .i64 (outF q)]) ∧ Below w.heap.size w w'
set_option maxHeartbeats 8000000 in
theorem ratio_at (q : Rat) (v : Value) (w : World) (hx : XR w v q) (l1 : wlen q.num.natAbs ≤ 100000000) (l2 : wlen q.den ≤ 100000000) : Calls Tryz.prog 46 #[v] w (OutPost w q) := by
  obtain ⟨a1, c1, a2, c2, rfl, h1, h2⟩ := hx.open_
  have H1 := Lib.hid h1
  have H2 := Lib.hid h2
  have HC45 := Lib.hid (cat45 (decS q.num.natAbs))
  have hs1 := strOf_size (decS q.num.natAbs)
  have hs2 := strOf_size (decS q.den)
  have HS1 := Lib.hid hs1
  have HS2 := Lib.hid hs2
  have HNEG : Hid (∀ b, decide (q.num < 0) = b → numL q = if b then 45 :: decS q.num.natAbs else decS q.num.natAbs) := by
    have : ∀ b, decide (q.num < 0) = b → numL q = if b then 45 :: decS q.num.natAbs else decS q.num.natAbs := fun b hb => by
      subst hb; unfold numL; simp
    exact this
  clear h1 h2 hx hs1 hs2
  generalize hbx : decide (q.num < 0) = bx at *
  have HNB := Lib.hid (HNEG.out bx rfl)
  clear HNEG hbx
  have tok1 : True := trivial
  go_enter Tryz.func46, Tryz.ntmps46
  go_upto_region 1 with (fail)
  refine wp_box2r fun W hsz hbW hA hC hF => ?_
  go_region_held3 (S2R W (w.heap.size + 1) w.heap.size #[Value.bool bx, Value.slice a1 (digs q.num.natAbs).length c1, Value.slice a2 (digs q.den).length c2] w.heap.size #[Value.bool bx, Value.slice a1 (digs q.num.natAbs).length c1, Value.slice a2 (digs q.den).length c2]) (first | exact S2R.start hA hA | exact S2R.ext (by with_reducible assumption) (by with_reducible assumption) (by omega) hA hA | assumption) (first | (have _t := tok1; go_at_call 78; refine (digits_at q.num.natAbs _ _ (H1.out.ext (S2R.low (by assumption) hbW (by omega))) l1).mono ?_; rintro e w2 ⟨rfl, hb2⟩; have hc2 := Lib.hid (ext_trans (Below.refl W.heap.size W).drew hb2); clear tok1) | (go_at_call 78; refine (digits_at q.den _ _ (H2.out.ext (S2R.low (by assumption) hbW (by omega))) l2).mono ?_; rintro e w3 ⟨rfl, hb3⟩; have hc3 := Lib.hid (ext_trans hc2.out hb3)))
  have hA3 := hA.ext hc3.out
  have hC3 := hC.ext hc3.out
  have hF3 := hF.ext hC hc3.out
  have hbw3 := ext_trans hbW hc3.out
  clear hA hC hF hc2 hc3 hbW hb2 hb3
  obtain ⟨_, oA⟩ := id hA3
  have r0 : w3.cell? ⟨w.heap.size + 1, 0, none⟩ = some (.string ⟨#[]⟩) := hC3.2 0
  have r1 : w3.cell? ⟨w.heap.size + 1, 1, none⟩ = some (.string ⟨#[]⟩) := hC3.2 1
  have g0 := hF3 0
  have g1 := hF3 1
  by_cases hf : Fits q
  · have hf1 : (strOf (decS q.num.natAbs)).size ≤ 4000 := by rw [HS1.out]; exact hf.1
    have hf2 : (strOf (decS q.den)).size ≤ 4000 := by rw [HS2.out]; exact hf.2
    have HF := Lib.hid hf
    clear hf
    cases bx
    · have hq := two_set (.string (strOf (decS q.num.natAbs))) (.string (strOf (decS q.den))) r0 r1
      have hbF : Below w.heap.size w ((w3.setCell ⟨w.heap.size + 1, 0, none⟩ (.string (strOf (decS q.num.natAbs)))).setCell ⟨w.heap.size + 1, 1, none⟩ (.string (strOf (decS q.den)))) := (hbw3.setCell (by simp) _).setCell (by simp) _
      go_wp2
      refine bodyPost_ret (v := .tuple #[.agg #[.string (strOf (decS q.num.natAbs)), .string (strOf (decS q.den))], .int .i64 0]) (by simp [results, Tryz.results46, go_sem, hq.1, hq.2]) rfl ⟨?_, hbF⟩
      unfold outN outD outF showN showD
      rw [if_pos HF.out, if_pos HF.out, if_pos HF.out, HNB.out]; rfl
    · have hq := two_set (.string (strOf (45 :: decS q.num.natAbs))) (.string (strOf (decS q.den))) r0 r1
      have hbF : Below w.heap.size w ((w3.setCell ⟨w.heap.size + 1, 0, none⟩ (.string (strOf (45 :: decS q.num.natAbs)))).setCell ⟨w.heap.size + 1, 1, none⟩ (.string (strOf (decS q.den)))) := (hbw3.setCell (by simp) _).setCell (by simp) _
      have hcat : (⟨#[45]⟩ : ByteArray) ++ strOf (decS q.num.natAbs) = strOf (45 :: decS q.num.natAbs) := HC45.out
      go_wp2
      refine bodyPost_ret (v := .tuple #[.agg #[.string (strOf (45 :: decS q.num.natAbs)), .string (strOf (decS q.den))], .int .i64 0]) (by simp [results, Tryz.results46, go_sem, hq.1, hq.2]) rfl ⟨?_, hbF⟩
      unfold outN outD outF showN showD
      rw [if_pos HF.out, if_pos HF.out, if_pos HF.out, HNB.out]; rfl
  · have hq := two_set (.string ⟨#[]⟩) (.string ⟨#[]⟩) r0 r1
    have hbF : Below w.heap.size w ((w3.setCell ⟨w.heap.size + 1, 0, none⟩ (.string ⟨#[]⟩)).setCell ⟨w.heap.size + 1, 1, none⟩ (.string ⟨#[]⟩)) := (hbw3.setCell (by simp) _).setCell (by simp) _
    have HF := Lib.hid hf
    by_cases hf1 : (strOf (decS q.num.natAbs)).size ≤ 4000
    · have hf2 : 4000 < (strOf (decS q.den)).size := by
        rw [HS2.out]; rw [HS1.out] at hf1
        unfold Fits at hf
        omega
      clear hf
      go_wp2
      refine bodyPost_ret (v := .tuple #[.agg #[.string ⟨#[]⟩, .string ⟨#[]⟩], .int .i64 2]) (by simp [results, Tryz.results46, go_sem, hq.1, hq.2]) rfl ⟨?_, hbF⟩
      unfold outN outD outF
      rw [if_neg HF.out, if_neg HF.out, if_neg HF.out]
    · clear hf
      go_wp2
      refine bodyPost_ret (v := .tuple #[.agg #[.string ⟨#[]⟩, .string ⟨#[]⟩], .int .i64 2]) (by simp [results, Tryz.results46, go_sem, hq.1, hq.2]) rfl ⟨?_, hbF⟩
      unfold outN outD outF
      rw [if_neg HF.out, if_neg HF.out, if_neg HF.out]
end Nm
end Go.Proofs.YtemenlcigengeaaGreatDoor
namespace Go.Proofs.YtemenlcigengeaaGreatDoor
namespace Nt
theorem wlen_add (m n : Nat) : wlen (m + n) ≤ max (wlen m) (wlen n) + 1 := by
  apply wlen_le
  have h1 := lt_pow_wlen m
  have h2 := lt_pow_wlen n
  have h3 : B ^ wlen m ≤ B ^ max (wlen m) (wlen n) := Nat.pow_le_pow_right B_pos (Nat.le_max_left _ _)
  have h4 : B ^ wlen n ≤ B ^ max (wlen m) (wlen n) := Nat.pow_le_pow_right B_pos (Nat.le_max_right _ _)
  rw [Nat.pow_succ, B_eq] at *; omega
end Nt
end Go.Proofs.YtemenlcigengeaaGreatDoor
namespace Go.Proofs.YtemenlcigengeaaGreatDoor
open Go.RowKit
namespace Nt
set_option maxRecDepth 100000 in
set_option maxHeartbeats 4000000 in
theorem minus_at (x y : Nat) (v u : Value) (w : World) (hx : N w v x) (hy : N w u y) (hyx : y ≤ x) (hxl : wlen x ≤ 1000000000) : Calls Tryz.prog 108 #[v, u] w (NPost w (x - y)) := by
  have hly0 : (digs y).length ≤ (digs x).length := wlen_mono hyx
  have HYX := Lib.hid hyx
  obtain ⟨a, c, rfl, s1⟩ := hx.open_
  obtain ⟨a', c', rfl, s2⟩ := hy.open_
  obtain ⟨p1, p2⟩ := sl_caps s1
  obtain ⟨q1, q2⟩ := sl_caps s2
  have HX := Lib.hid (digs_dg x)
  have HY := Lib.hid (digs_dg y)
  unfold wlen at hxl
  have HZ0 : Hid (([] : List Nat).length = 0) := by
    have : ([] : List Nat).length = 0 := rfl
    exact this
  have HZ : Hid (val [] + val ((digs y).take 0) = val ((digs x).take 0) + B ^ 0 * 0) := by
    have : val [] + val ((digs y).take 0) = val ((digs x).take 0) + B ^ 0 * 0 := by simp [val]
    exact this
  clear hx hy hyx
  go_enter Tryz.func108, Tryz.ntmps108
  go_wp2
  go_loopw [5, 6, 11] (fun ov cv iv wr => ∃ (k br : Nat) (l : List Nat), k ≤ (digs x).length ∧ iv = .int .i64 k ∧ cv = .int .i64 br ∧ br ≤ 1 ∧ Hid (l.length = k) ∧ Hid (Dg l) ∧ Hid (val l + val ((digs y).take k) = val ((digs x).take k) + B ^ k * br) ∧ Row wr w.heap.size ov l ∧ Below w.heap.size w wr) (fun _ _ iv _ => (digs x).length - (intOf iv).toNat)
  case atStart => exact ⟨0, 0, [], Nat.zero_le _, rfl, rfl, by omega, HZ0, Dg.nil, HZ, Row.nil _ _, Below.refl _ _⟩
  case round =>
    obtain ⟨k, br, l, hk, rfl, rfl, hbr, HL, HDg, HV, hr, hb⟩ := hrel
    have hle := hb.size
    have hll : l.length ≤ 10000000000 := by rw [HL.out]; omega
    by_cases hlx : k < (digs x).length
    · have hV1 := val_take_wd (digs x) k
      have hV2 := val_take_wd (digs y) k
      obtain ⟨b, o, rfl, e0⟩ := sl_addr (s1.ext hb) (wcs_get hlx)
      have hX := HX.out.get hlx
      rw [wd_get hlx] at hV1
      generalize (digs x)[k] = X at *
      rw [B_eq] at hX
      by_cases hly : k < (digs y).length
      · obtain ⟨b', o', rfl, f0⟩ := sl_addr (s2.ext hb) (wcs_get hly)
        have hY := HY.out.get hly
        rw [wd_get hly] at hV2
        generalize (digs y)[k] = Y at *
        rw [B_eq] at hY
        by_cases hneg : X < br + Y
        · have HR : Hid (val (l ++ [X + 1000000000 - br - Y]) + val ((digs y).take (k + 1)) = val ((digs x).take (k + 1)) + B ^ (k + 1) * 1) := by
            have h1 := minus_step (X := X) (Y := Y) (n := X + 1000000000 - br - Y) (b2 := 1) HV.out (by rw [B_eq]; omega)
            rw [← hV1, ← hV2] at h1
            have : val (l ++ [X + 1000000000 - br - Y]) + val ((digs y).take (k + 1)) = val ((digs x).take (k + 1)) + B ^ (k + 1) * 1 := by
              rw [val_append, HL.out, Nat.pow_succ, ← h1]
              simp [val]
            exact this
          have HL2 : Hid ((l ++ [X + 1000000000 - br - Y]).length = k + 1) := by
            have : (l ++ [X + 1000000000 - br - Y]).length = k + 1 := by rw [List.length_append, HL.out]; rfl
            exact this
          have HD2 : Hid (Dg (l ++ [X + 1000000000 - br - Y])) := by
            have : Dg (l ++ [X + 1000000000 - br - Y]) := HDg.out.append (Dg.cons.2 ⟨by rw [B_eq]; omega, Dg.nil⟩)
            exact this
          clear hV1 hV2
          go_wp2_with (at_builtin; refine wpList_append_wd rfl _ _ rfl w.heap.size rfl hr (X + 1000000000 - br - Y) rfl (by omega) hll hle ?_; intro v' w' hr' hb')
          go_roundw
          case rel => exact ⟨k + 1, 1, _, by omega, by go_num, by go_num, by omega, HL2, HD2, HR, hr', hb.trans hb'⟩
          case measure => simp [intOf] <;> omega
        · have HR : Hid (val (l ++ [X - br - Y]) + val ((digs y).take (k + 1)) = val ((digs x).take (k + 1)) + B ^ (k + 1) * 0) := by
            have h1 := minus_step (X := X) (Y := Y) (n := X - br - Y) (b2 := 0) HV.out (by rw [B_eq]; omega)
            rw [← hV1, ← hV2] at h1
            have : val (l ++ [X - br - Y]) + val ((digs y).take (k + 1)) = val ((digs x).take (k + 1)) + B ^ (k + 1) * 0 := by
              rw [val_append, HL.out, Nat.pow_succ, ← h1]
              simp [val]
            exact this
          have HL2 : Hid ((l ++ [X - br - Y]).length = k + 1) := by
            have : (l ++ [X - br - Y]).length = k + 1 := by rw [List.length_append, HL.out]; rfl
            exact this
          have HD2 : Hid (Dg (l ++ [X - br - Y])) := by
            have : Dg (l ++ [X - br - Y]) := HDg.out.append (Dg.cons.2 ⟨by rw [B_eq]; omega, Dg.nil⟩)
            exact this
          clear hV1 hV2
          go_wp2_with (at_builtin; refine wpList_append_wd rfl _ _ rfl w.heap.size rfl hr (X - br - Y) rfl (by omega) hll hle ?_; intro v' w' hr' hb')
          go_roundw
          case rel => exact ⟨k + 1, 0, _, by omega, by go_num, by go_num, by omega, HL2, HD2, HR, hr', hb.trans hb'⟩
          case measure => simp [intOf] <;> omega
      · rw [wd_past (by omega)] at hV2
        by_cases hneg : X < br
        · have HR : Hid (val (l ++ [X + 1000000000 - br]) + val ((digs y).take (k + 1)) = val ((digs x).take (k + 1)) + B ^ (k + 1) * 1) := by
            have h1 := minus_step (X := X) (Y := 0) (n := X + 1000000000 - br) (b2 := 1) HV.out (by rw [B_eq]; omega)
            rw [← hV1, ← hV2] at h1
            have : val (l ++ [X + 1000000000 - br]) + val ((digs y).take (k + 1)) = val ((digs x).take (k + 1)) + B ^ (k + 1) * 1 := by
              rw [val_append, HL.out, Nat.pow_succ, ← h1]
              simp [val]
            exact this
          have HL2 : Hid ((l ++ [X + 1000000000 - br]).length = k + 1) := by
            have : (l ++ [X + 1000000000 - br]).length = k + 1 := by rw [List.length_append, HL.out]; rfl
            exact this
          have HD2 : Hid (Dg (l ++ [X + 1000000000 - br])) := by
            have : Dg (l ++ [X + 1000000000 - br]) := HDg.out.append (Dg.cons.2 ⟨by rw [B_eq]; omega, Dg.nil⟩)
            exact this
          clear hV1 hV2
          go_wp2_with (at_builtin; refine wpList_append_wd rfl _ _ rfl w.heap.size rfl hr (X + 1000000000 - br) rfl (by omega) hll hle ?_; intro v' w' hr' hb')
          go_roundw
          case rel => exact ⟨k + 1, 1, _, by omega, by go_num, by go_num, by omega, HL2, HD2, HR, hr', hb.trans hb'⟩
          case measure => simp [intOf] <;> omega
        · have HR : Hid (val (l ++ [X - br]) + val ((digs y).take (k + 1)) = val ((digs x).take (k + 1)) + B ^ (k + 1) * 0) := by
            have h1 := minus_step (X := X) (Y := 0) (n := X - br) (b2 := 0) HV.out (by rw [B_eq]; omega)
            rw [← hV1, ← hV2] at h1
            have : val (l ++ [X - br]) + val ((digs y).take (k + 1)) = val ((digs x).take (k + 1)) + B ^ (k + 1) * 0 := by
              rw [val_append, HL.out, Nat.pow_succ, ← h1]
              simp [val]
            exact this
          have HL2 : Hid ((l ++ [X - br]).length = k + 1) := by
            have : (l ++ [X - br]).length = k + 1 := by rw [List.length_append, HL.out]; rfl
            exact this
          have HD2 : Hid (Dg (l ++ [X - br])) := by
            have : Dg (l ++ [X - br]) := HDg.out.append (Dg.cons.2 ⟨by rw [B_eq]; omega, Dg.nil⟩)
            exact this
          clear hV1 hV2
          go_wp2_with (at_builtin; refine wpList_append_wd rfl _ _ rfl w.heap.size rfl hr (X - br) rfl (by omega) hll hle ?_; intro v' w' hr' hb')
          go_roundw
          case rel => exact ⟨k + 1, 0, _, by omega, by go_num, by go_num, by omega, HL2, HD2, HR, hr', hb.trans hb'⟩
          case measure => simp [intOf] <;> omega
    · obtain rfl : k = (digs x).length := by omega
      have HF : Hid (val l = x - y) := by
        have h1 := HV.out
        rw [List.take_of_length_le hly0, List.take_length, val_digs, val_digs] at h1
        have h2 := val_lt HDg.out
        rw [HL.out] at h2
        have h3 := HYX.out
        have hb0 : br = 0 := by
          rcases Nat.eq_zero_or_pos br with h | h
          · exact h
          · obtain rfl : br = 1 := by omega
            rw [Nat.mul_one] at h1; omega
        subst hb0
        rw [Nat.mul_zero] at h1
        have : val l = x - y := by omega
        exact this
      have hs := hr.sl
      have hT := trim_at l HDg.out _ _ hs
      rw [HF.out] at hT
      go_wp2_with fail
      refine Calls.mono hT ?_
      rintro e w' ⟨v, rfl, hv, rfl⟩
      clear hT hs
      go_wp2
      go_ret
      exact ⟨_, rfl, hv, hb⟩
end Nt
end Go.Proofs.YtemenlcigengeaaGreatDoor
namespace Go.Proofs.YtemenlcigengeaaGreatDoor
open Go.RowKit
namespace Nm
def opN (op : Rat → Rat → Rat) (n1 d1 n2 d2 : ByteArray) : ByteArray := if bF n1 d1 n2 d2 = 0 then outN (op (rQ n1 d1) (rQ n2 d2)) else ⟨#[]⟩
def opD (op : Rat → Rat → Rat) (n1 d1 n2 d2 : ByteArray) : ByteArray := if bF n1 d1 n2 d2 = 0 then outD (op (rQ n1 d1) (rQ n2 d2)) else ⟨#[]⟩
def opF (op : Rat → Rat → Rat) (n1 d1 n2 d2 : ByteArray) : Int := if bF n1 d1 n2 d2 = 0 then outF (op (rQ n1 d1) (rQ n2 d2)) else bF n1 d1 n2 d2
end Nm
end Go.Proofs.YtemenlcigengeaaGreatDoor
