/- WriteString of a strings.Builder of the call's own (the builder's other methods stand in the shelf). text of the reference's natural numbers: the decimal numeral. readNatural of the reference: the number that decimal digits say. -/
import Derived.Test.YtemenlcigengeaaGreatDoorProg
import Derived.Test.YtemenlcigengeaaGreatDoorTq00
import Derived.Lib.Strings
import Derived.Lib.Walk
import Derived.Lib.Builder
import Derived.Lib.AppendStr
import Derived.WalkKit
import Derived.Laws.Externs
import Derived.Test.YtemenlcigengeaaGreatDoorTq28
import Derived.Test.YtemenlcigengeaaGreatDoorShelf
import Derived.Test.YtemenlcigengeaaGreatDoorTq16
import Derived.Lib.SmallJoins
import Derived.Lib.AppendIntMem
namespace Go.Proofs.YtemenlcigengeaaGreatDoor
open Go.RowKit
theorem bld_info : ∃ j, Tryz.prog.info? 150 = some j ∧ j.size = 2 :=
  Option.map_eq_some_iff.1 (show (Tryz.prog.info? 150).map (·.size) = some 2 by kernel_rfl)
theorem bld_lies : liesAt Tryz.prog Tryz.prog.depth 150 (2 / Tryz.prog.cellsOf 150) 0 150 1 = true := by kernel_rfl
theorem byte_info : (Tryz.prog.info? 5).map (fun i => (i.zero, i.size, i.bytes)) = some (some (.int .u8 0), 1, 1) := by kernel_rfl
set_option maxHeartbeats 1000000 in
set_option maxRecDepth 100000 in
theorem bld_check_used (b : Nat) (w : World) (h0 : w.cell? ⟨b, 0, none⟩ = some (.pointer (some ⟨b, 0, none⟩))) :
    Calls Tryz.prog 140 #[.pointer (some ⟨b, 0, none⟩)] w fun e w' => e = .returned (.tuple #[]) ∧ w' = w := by
  obtain ⟨j, hj, _⟩ := bld_info
  go_enter Tryz.func140, Tryz.ntmps140
  go_wp2
  rw [Lib.run_neq_ptr_same w _ Tryz.underlying148 hj]
  go_wp2
  go_end0
  exact ⟨rfl, rfl⟩
set_option maxHeartbeats 1000000 in
set_option maxRecDepth 100000 in
theorem bld_check_fresh (b : Nat) (w : World) (h0 : w.cell? ⟨b, 0, none⟩ = some (.pointer none)) (hsh : w.shape? b = some (150, 2)) (hfz : w.frozen? ⟨b, 0, none⟩ = false) :
    Calls Tryz.prog 140 #[.pointer (some ⟨b, 0, none⟩)] w fun e w' => e = .returned (.tuple #[]) ∧ w' = w.setCell ⟨b, 0, none⟩ (.pointer (some ⟨b, 0, none⟩)) := by
  obtain ⟨j, hj, hjs⟩ := bld_info
  go_enter Tryz.func140, Tryz.ntmps140
  go_wp2
  rw [Lib.run_to_unsafe w ⟨b, 0, none⟩ Tryz.underlying148 Tryz.underlying180 hj (by rw [hjs]; decide) hsh (Nat.zero_lt_succ 1)]
  simp only [Result.andThen]
  rw [Oper.upon_value]
  go_wp2
  rw [run_callFunc_extern Tryz.func154 (by kernel_rfl) (by kernel_rfl) (by kernel_rfl) (e := Extern.AbiNoEscape.same) (by kernel_rfl)]
  rw [Lib.run_noEscape]
  simp only [Result.andThen]
  rw [Oper.upon_value]
  go_wp2
  rw [Lib.run_from_unsafe w ⟨b, 0, none⟩ Tryz.underlying180 Tryz.underlying148 hj hsh bld_lies]
  simp only [Result.andThen]
  rw [Oper.upon_value]
  go_wp2
  go_end0
  exact ⟨rfl, rfl⟩
theorem bld_check (B b : Nat) (bs : List Value) (w : World) (h : Lib.IsBuilder 150 5 B b bs w) :
    Calls Tryz.prog 140 #[.pointer (some ⟨b, 0, none⟩)] w fun e w' => e = .returned (.tuple #[]) ∧ (Lib.BuilderAt 150 5 B b (.pointer (some ⟨b, 0, none⟩)) bs w' ∧ Below B w w') := by
  rcases h with h | h
  · refine (bld_check_fresh b w h.cell0 h.shape h.frozen0).mono ?_
    rintro e w' ⟨rfl, rfl⟩
    exact ⟨rfl, h.used _, (Below.refl B w).setCell (p := ⟨b, 0, none⟩) h.1 _⟩
  · refine (bld_check_used b w h.cell0).mono ?_
    rintro e w' ⟨rfl, rfl⟩
    exact ⟨rfl, h, Below.refl B _⟩
set_option maxHeartbeats 2000000 in
set_option maxRecDepth 100000 in
/-- WriteString, under Go's own limit -/
theorem bld_write (B b : Nat) (bs : List Value) (s : ByteArray) (w : World) (h : Lib.IsBuilder 150 5 B b bs w) (hlen : bs.length + s.size ≤ 140737488355328) (hBw : B ≤ w.heap.size) :
    Calls Tryz.prog 117 #[.pointer (some ⟨b, 0, none⟩), .string s] w fun e w' => e = .returned (.tuple #[.int .i64 s.size, .nilIface]) ∧ (Lib.IsBuilder 150 5 B b (bs ++ Lib.strCells s) w' ∧ Below B w w') := by
  obtain ⟨i0, hi, hz0, hz1, hz2⟩ := info_parts byte_info
  go_enter Tryz.func117, Tryz.ntmps117
  go_wp2_with (go_at_call 140; refine (bld_check B b bs _ h).mono ?_)
  rintro e w1 ⟨rfl, h1, hb1⟩
  obtain ⟨hB, v, hbk, hown, hne⟩ := h1
  have c0 : w1.cell? ⟨b, 0, none⟩ = some (.pointer (some ⟨b, 0, none⟩)) := by rw [Lib.cell_of_heap hbk]; rfl
  have c1 : w1.cell? ⟨b, 1, none⟩ = some v := by rw [Lib.cell_of_heap hbk]; rfl
  go_wp2_with (at_builtin; refine Lib.wpList_append_own_string _ rfl _ _ 135 9 rfl B 5 i0 Tryz.underlying135 Tryz.underlying9 hi hz0 hz1 hz2 _ _ _ rfl hown s rfl ?c3 ?c4 ?c5 ?_)
  case c3 => unfold maxLen; omega
  case c4 => omega
  case c5 => have := hb1.size; omega
  intro v' w2 hown' hgrow _
  have hlt : b < w1.heap.size := by
    rcases Nat.lt_or_ge b w1.heap.size with h' | h'
    · exact h'
    · simp [Array.getElem?_eq_none h'] at hbk
  have hb2 : w2.heap[b]? = some (.cells #[.pointer (some ⟨b, 0, none⟩), v] 150 (0, 0)) := by
    rw [hgrow.block b hlt (fun e => hne e.symm)]
    exact hbk
  have d0 : w2.cell? ⟨b, 0, none⟩ = some (.pointer (some ⟨b, 0, none⟩)) := by rw [Lib.cell_of_heap hb2]; rfl
  have d1 : w2.cell? ⟨b, 1, none⟩ = some v := by rw [Lib.cell_of_heap hb2]; rfl
  have f1 : w2.frozen? ⟨b, 1, none⟩ = false := Lib.frozen_of_heap hb2 1
  obtain ⟨ao, n', cap, rfl⟩ : ∃ ao n' cap, v' = .slice ao n' cap := by
    rcases hown'.2 with ⟨hv, _⟩ | ⟨g, cap, cur, hv, _⟩
    · exact ⟨_, _, _, hv⟩
    · exact ⟨_, _, _, hv⟩
  go_wp2
  go_ret2
  refine ⟨rfl, .inr ?_, ?_⟩
  · exact Lib.BuilderAt.put (T := 150) (e := 5) hB hb2 (bs' := bs ++ Lib.strCells s) (by simpa [Lib.strCells_length] using hown') (by decide)
  · exact (hb1.grown hgrow (by have := hb1.size; omega) (fun k hk => (hown.lt k hk).1)).setCell (p := ⟨b, 1, none⟩) hB _
end Go.Proofs.YtemenlcigengeaaGreatDoor
namespace Go.Proofs.YtemenlcigengeaaGreatDoor
open Go.RowKit
namespace Nt
open _root_.Go.Proofs.YtemenlcigengeaaGreatDoor.Nm (decS decv Digs Whl dch digv whl_eq decS_whl decS_digs decv_decS decS_length decv_append decS_small decS_big)
/-- the table that strconv reads -/
def Tab (w : World) : Prop := Lib.TabIs Tryz.prog w "internal/strconv.uint64pow10" .u64 Lib.pow10Tab
theorem Tab.ext {w w' : World} (h : Tab w) (hb : Below w.heap.size w w') : Tab w' := by
  cases hg : Tryz.prog.globalNamed "internal/strconv.uint64pow10" with
  | none => unfold Tab Lib.TabIs World.var? at h; rw [hg] at h; cases h
  | some g => exact Joins.tab_stays hg h hb (Nat.le_refl _)
theorem decDigits_eq' (u : Nat) : Lib.decDigits u = decS u := by
  induction u using Nat.strongRecOn with
  | ind u ih =>
    by_cases h : u < 10
    · rw [Lib.decDigits, dif_pos h, decS_small h]; rfl
    · rw [Lib.decDigits, dif_neg h, decS_big h, ih _ (by omega)]; rfl
theorem itoa_nat (n : Nat) : Lib.itoa (n : Int) = decS n := by
  unfold Lib.itoa
  rw [if_neg (by omega), Int.toNat_natCast, decDigits_eq']
def strOf (l : List UInt8) : ByteArray := ⟨l.toArray⟩
theorem strOf_size (l : List UInt8) : (strOf l).size = l.length := by simp [strOf, ByteArray.size]
def SPost (w : World) (l : List UInt8) (e : Ending) (w' : World) : Prop := e = .returned (.string (strOf l)) ∧ Below w.heap.size w w'
theorem itoa_at (n : Nat) (hn : n ≤ 9223372036854775807) (w : World) (ht : Tab w) : Calls Tryz.prog 118 #[.int .i64 (n : Int)] w (SPost w (decS n)) := by
  refine (Tryz.strconv_Itoa (n : Int) (by omega) (by omega) w ht).mono ?_
  rintro e w' ⟨rfl, k, os, rfl⟩
  exact ⟨by rw [itoa_nat]; rfl, Lib.below_grow _ _ (Nat.le_refl _) _ _⟩
theorem repeatL_one (c : UInt8) (n : Nat) : Lib.repeatL [c] n = List.replicate n c := by
  induction n with
  | zero => rfl
  | succ n ih =>
    have e : Lib.repeatL [c] (n + 1) = [c] ++ Lib.repeatL [c] n := by simp [Lib.repeatL]
    rw [e, ih]; rfl
theorem zeros_at (n : Nat) (hn : n ≤ 1000000) (w : World) : Calls Tryz.prog 119 #[.string ⟨#[48]⟩, .int .i64 (n : Int)] w (SPost w (List.replicate n 48)) := by
  have hsz : ByteArray.size ⟨#[48]⟩ = 1 := rfl
  refine (Tryz.strings_Repeat ⟨#[48]⟩ n w (by omega) (by rw [hsz]; omega)).mono ?_
  rintro e w' ⟨rfl, hb⟩
  exact ⟨by rw [show (⟨#[48]⟩ : ByteArray).data.toList = [48] from rfl, repeatL_one]; rfl, hb⟩
theorem decv_zeros (n : Nat) : decv (List.replicate n 48) = 0 := by
  induction n with
  | zero => rfl
  | succ n ih => rw [List.replicate_succ', decv_append, ih]; rfl
/-- nine digits behind a numeral -/
theorem decS_more {q x : Nat} (hq : 0 < q) (hx : x < B) : decS (x + B * q) = decS q ++ (List.replicate (9 - (decS x).length) 48 ++ decS x) := by
  have hl : (decS x).length ≤ 9 := decS_length (by rw [B_eq] at hx; exact hx) (by omega)
  refine (whl_eq _ _ ⟨?_, ?_⟩ ?_).symm
  · intro c hc
    rcases List.mem_append.1 hc with hc | hc
    · exact decS_digs q c hc
    · rcases List.mem_append.1 hc with hc | hc
      · rw [(List.mem_replicate.1 hc).2]; decide
      · exact decS_digs x c hc
  · obtain ⟨hd, c, r, h1, h2⟩ := decS_whl q
    refine ⟨c, _, by rw [h1]; rfl, fun _ => ?_⟩
    by_cases hr : r = []
    · subst hr
      intro hc
      have hv := decv_decS q
      rw [h1] at hv
      have : decv [c] = 0 := by unfold decv digv; simp [hc]
      omega
    · exact h2 hr
  · rw [decv_append, decv_append, decv_zeros, decv_decS, decv_decS, List.length_append, List.length_replicate, show 9 - (decS x).length + (decS x).length = 9 by omega, B_eq]
    omega
theorem decS_len (l : List Nat) (hd : Dg l) : (decS (val l)).length ≤ 9 * l.length + 1 := by
  refine decS_length ?_ (by omega)
  have h1 := val_lt hd
  have h2 : B ^ l.length ≤ 10 ^ (9 * l.length + 1) := by
    rw [Nat.pow_succ, Nat.pow_mul, B_eq]
    exact Nat.le_mul_of_pos_right _ (by decide)
  omega
abbrev Bd (B b : Nat) (l : List UInt8) (w : World) : Prop := Lib.IsBuilder 150 5 B b (Lib.byteCells l) w
theorem strCells_of (l : List UInt8) : Lib.strCells (strOf l) = Lib.byteCells l := rfl
theorem byteCells_app (l m : List UInt8) : Lib.byteCells (l ++ m) = Lib.byteCells l ++ Lib.byteCells m := by simp [Lib.byteCells]
theorem Bd.ext {B b : Nat} {l : List UInt8} {w w' : World} (h : Bd B b l w) (hb : Below w.heap.size w w') : Bd B b l w' := by
  have key : ∀ p, Lib.BuilderAt 150 5 B b p (Lib.byteCells l) w → Lib.BuilderAt 150 5 B b p (Lib.byteCells l) w' := fun p hp => by
    have hlt := hp.lt
    obtain ⟨h1, v, h2, h3, h4⟩ := hp
    exact ⟨h1, v, (hb.block b hlt).trans h2, ownsRow_ext h3 hb, h4⟩
  exact h.elim (fun x => .inl (key _ x)) (fun x => .inr (key _ x))
def WPost (B b : Nat) (l : List UInt8) (w : World) (n : Nat) (e : Ending) (w' : World) : Prop := e = .returned (.tuple #[.int .i64 (n : Int), .nilIface]) ∧ Bd B b l w' ∧ Below B w w'
theorem write_at (B b : Nat) (l m : List UInt8) (w : World) (h : Bd B b l w) (hlen : l.length + m.length ≤ 140737488355328) (hBw : B ≤ w.heap.size) :
    Calls Tryz.prog 117 #[.pointer (some ⟨b, 0, none⟩), .string (strOf m)] w (WPost B b (l ++ m) w m.length) := by
  refine (bld_write B b (Lib.byteCells l) (strOf m) w h (by rw [Lib.byteCells_length, strOf_size]; exact hlen) hBw).mono ?_
  rintro e w' ⟨rfl, h1, h2⟩
  refine ⟨by rw [strOf_size], ?_, h2⟩
  rw [strCells_of, ← byteCells_app] at h1
  exact h1
set_option maxRecDepth 100000 in
set_option maxHeartbeats 4000000 in
theorem text_at (x : Nat) (v : Value) (w : World) (hx : N w v x) (hxl : wlen x ≤ 1000000000) (ht : Tab w) : Calls Tryz.prog 97 #[v] w (SPost w (decS x)) := by
  obtain ⟨a, c, rfl, s1⟩ := hx.open_
  obtain ⟨p1, p2⟩ := sl_caps s1
  have HX := Lib.hid (digs_dg x)
  have HT := Lib.hid ht
  have HC := Lib.hid (digs_can x)
  have HVX := Lib.hid (val_digs x)
  unfold wlen at hxl
  clear hx ht
  by_cases h0 : (digs x).length = 0
  · have HE : Hid (decS x = [48]) := by
      have hx0 : x = 0 := wlen_eq_zero.1 h0
      have : decS x = [48] := by rw [hx0, decS_small (by omega)]; rfl
      exact this
    rw [h0]
    clear h0
    go_enter Tryz.func97, Tryz.ntmps97
    go_wp2
    go_ret
    exact ⟨by rw [HE.out]; rfl, Below.refl _ _⟩
  · have hb0 : (((digs x).length : Int) == 0) = false := beq_eq_false_iff_ne.2 (by omega)
    have hm1 : (digs x).length - 1 < (digs x).length := by omega
    have hmI : (((digs x).length - 1 : Nat) : Int) = ((digs x).length : Int) - 1 := by omega
    obtain ⟨b, o, rfl, e0⟩ := sl_addr s1 (wcs_get hm1)
    have hX := HX.out.get hm1
    have HTOP : Hid (val ((digs x).drop ((digs x).length - 1)) = (digs x)[(digs x).length - 1] ∧ 0 < (digs x)[(digs x).length - 1]) := by
      have h1 := val_drop (digs x) ((digs x).length - 1) hm1
      rw [List.drop_of_length_le (show (digs x).length ≤ (digs x).length - 1 + 1 by omega)] at h1
      have h2 := HC.out (fun h => by rw [h] at h0; exact h0 rfl)
      rw [List.getLast_eq_getElem] at h2
      have : val ((digs x).drop ((digs x).length - 1)) = (digs x)[(digs x).length - 1] ∧ 0 < (digs x)[(digs x).length - 1] := ⟨by rw [h1]; simp [val], Nat.pos_of_ne_zero h2⟩
      exact this
    generalize (digs x)[(digs x).length - 1] = X at *
    rw [B_eq] at hX
    go_enter Tryz.func97, Tryz.ntmps97
    go_upto_region 4 with (fail)
    have hbd0 : Bd w.heap.size w.heap.size [] (w.alloc (.cells #[.pointer none, .slice none 0 0] 150)) :=
      .inl ⟨Nat.le_refl _, .slice none 0 0, by show (w.heap.push _)[w.heap.size]? = _; simp, ⟨by simp [Lib.byteCells], .inl ⟨rfl, rfl⟩⟩, (fun h => by cases h)⟩
    have hb1 := ext_alloc w (.cells #[.pointer none, .slice none 0 0] 150)
    have hlt1 : w.heap.size ≤ (w.alloc (.cells #[.pointer none, .slice none 0 0] 150)).heap.size := by simp
    have e1 : (w.alloc (.cells #[.pointer none, .slice none 0 0] 150)).cell? ⟨b, o + ((digs x).length - 1), none⟩ = some (.int .i64 (X : Int)) := (hb1.cell (World.block_lt_of_cell? w _ e0)).trans e0
    have HT1 := Lib.hid (HT.out.ext hb1)
    have HS0 := Lib.hid s1
    clear e0 s1
    generalize w.alloc (.cells #[.pointer none, .slice none 0 0] 150) = W1 at *
    go_wp2_with fail
    refine (itoa_at X (by omega) W1 HT1.out).mono ?_
    rintro e w2 ⟨rfl, hb2⟩
    have hbd2 := hbd0.ext hb2
    have hbw2 := ext_trans hb1 hb2
    have hX9 : (decS X).length ≤ 9 := decS_length hX (by omega)
    have HX9 := Lib.hid hX9
    clear e1 hbd0 hb1 hlt1
    have hle2 : w.heap.size ≤ w2.heap.size := hbw2.size
    go_wp2_with fail
    refine (write_at w.heap.size w.heap.size [] (decS X) w2 hbd2 (by simp; omega) hle2).mono ?_
    rintro e w3 ⟨rfl, hbd3, hb3⟩
    rw [List.nil_append] at hbd3
    have hbw3 : Below w.heap.size w w3 := hbw2.trans hb3
    rw [← HTOP.out.1] at hbd3
    have HTB := Lib.hid (show Tab w from HT.out)
    have HS := Lib.hid (show Sl w (.slice (some ⟨b, o, none⟩) (digs x).length c) (digs x).length (wcs (digs x)) from HS0.out)
    have hlenX : (digs x).length ≤ 1000000000 := hxl
    have HV0 : Hid (0 < val ((digs x).drop ((digs x).length - 1))) := by
      have : 0 < val ((digs x).drop ((digs x).length - 1)) := by rw [HTOP.out.1]; exact HTOP.out.2
      exact this
    clear HT1 hbd2 hbw2 hle2 hX9 HX9 HTOP hb2 hb3
    go_wp2
    go_loopw [4] (fun iv wr => ∃ k : Nat, k ≤ (digs x).length - 1 ∧ iv = .int .i64 ((k : Int) - 1) ∧ Hid (0 < val ((digs x).drop k)) ∧ Bd w.heap.size w.heap.size (decS (val ((digs x).drop k))) wr ∧ Below w.heap.size w wr) (fun iv _ => (intOf iv + 1).toNat)
    case atStart => exact ⟨(digs x).length - 1, Nat.le_refl _, (by refine congrArg (Value.int .i64) ?_; omega), HV0, hbd3, hbw3⟩
    case round =>
      clear HV0 hbd3 hbw3
      obtain ⟨k, hk, rfl, HV, hbd, hbw⟩ := hrel
      cases k with
      | zero =>
        rw [List.drop_zero, HVX.out] at hbd
        have hle := hbw.size
        go_wp2_with fail
        refine (Tryz.Builder_String_any w.heap.size w.heap.size _ wr hbd hle).mono ?_
        rintro e w9 ⟨rfl, hb9⟩
        go_wp2
        go_ret
        exact ⟨rfl, hbw.trans hb9⟩
      | succ j =>
        have hj : j < (digs x).length := by omega
        rw [show (((j + 1 : Nat) : Int) - 1) = (j : Int) by omega]
        obtain ⟨b', o', hbo, e0⟩ := sl_addr (HS.out.ext hbw) (wcs_get hj)
        cases hbo
        have hXj := HX.out.get hj
        have HVD := Lib.hid (val_drop (digs x) j hj)
        generalize (digs x)[j] = Y at *
        have HDM := Lib.hid (decS_more HV.out hXj)
        rw [B_eq] at hXj
        have hY9 : (decS Y).length ≤ 9 := decS_length hXj (by omega)
        have hDL : (decS (val ((digs x).drop (j + 1)))).length ≤ 9000000001 := by
          have h1 := decS_len ((digs x).drop (j + 1)) (HX.out.drop (j + 1))
          rw [List.length_drop] at h1
          omega
        have HTr := Lib.hid (HTB.out.ext hbw)
        go_wp2_with fail
        refine (itoa_at Y (by omega) wr HTr.out).mono ?_
        rintro e w2 ⟨rfl, hb2⟩
        have hbd2 := hbd.ext hb2
        have hbw2 := ext_trans hbw hb2
        obtain ⟨s, hs⟩ : ∃ s, s = decS Y := ⟨_, rfl⟩
        rw [← hs] at hY9 HDM ⊢
        have hsz : (strOf s).size = s.length := strOf_size s
        have HSZ := Lib.hid hsz
        clear e0 hbd hbw hb2 hs
        obtain ⟨z, hz⟩ : ∃ z : Nat, z = 9 - s.length := ⟨_, rfl⟩
        have hzI : (9 : Int) - (s.length : Int) = (z : Int) := by omega
        have hz9 : z ≤ 9 := by omega
        rw [← hz] at HDM
        clear hz
        go_wp2_with fail
        refine (zeros_at z (by omega) w2).mono ?_
        rintro e w3 ⟨rfl, hb3⟩
        have hbd3 := hbd2.ext hb3
        have hbw3 := ext_trans hbw2 hb3
        have hle3 := hbw3.size
        clear hbd2 hbw2 hb3 hzI hsz
        go_wp2_with fail
        refine (write_at w.heap.size w.heap.size _ (List.replicate z 48) w3 hbd3 (by rw [List.length_replicate]; omega) hle3).mono ?_
        rintro e w4 ⟨rfl, hbd4, hb4⟩
        have hbw4 := hbw3.trans hb4
        have hle4 := hbw4.size
        clear hbd3 hbw3 hle3 hb4
        go_wp2_with fail
        refine (write_at w.heap.size w.heap.size _ s w4 hbd4 (by rw [List.length_append, List.length_replicate]; omega) hle4).mono ?_
        rintro e w5 ⟨rfl, hbd5, hb5⟩
        have hbw5 := hbw4.trans hb5
        rw [List.append_assoc, ← HDM.out, ← HVD.out] at hbd5
        have HV5 : Hid (0 < val ((digs x).drop j)) := by
          have h1 := HVD.out
          have h2 := HV.out
          have : 0 < val ((digs x).drop j) := by
            rw [h1]
            have := Nat.mul_pos B_pos h2
            omega
          exact this
        clear hbd4 hbw4 hle4 hb5 HDM HVD
        go_wp2
        go_roundw
        case rel => exact ⟨j, by omega, by go_num, HV5, hbd5, hbw5⟩
        case measure => simp [intOf] <;> omega
end Nt
end Go.Proofs.YtemenlcigengeaaGreatDoor
namespace Go.Proofs.YtemenlcigengeaaGreatDoor
open Go.RowKit
namespace Nt
open _root_.Go.Proofs.YtemenlcigengeaaGreatDoor.Nm (decS decv Digs Whl dch digv whl_eq decS_whl decS_digs decv_decS decS_length decv_append decS_small decS_big decv_snoc decv_lt)
theorem ext_list (s : ByteArray) (i n : Nat) : (s.extract i (i + n)).data.toList = (s.data.toList.drop i).take n := by
  simp only [ByteArray.data_extract, Array.toList_extract]
  rw [List.extract_eq_take_drop]; congr 1; omega
theorem ext_zero (s : ByteArray) (n : Nat) : (s.extract 0 n).data.toList = s.data.toList.take n := by
  have := ext_list s 0 n
  rw [Nat.zero_add, List.drop_zero] at this; exact this
theorem decFrom_eq (l : List UInt8) (h : Digs l) : ∀ a, Lib.decFrom a l = some (l.foldl (fun a c => a * 10 + digv c) a) := by
  induction l with
  | nil => intro a; rfl
  | cons c l ih =>
    intro a
    have hc := h c (by simp)
    unfold Lib.decFrom Lib.digitVal
    rw [if_pos hc]
    simp only [List.foldl_cons]
    exact ih (fun d hd => h d (by simp [hd])) _
theorem atoi_digs (l : List UInt8) (h : Digs l) (hn : l ≠ []) : Lib.atoi l = some ((decv l : Nat) : Int) := by
  cases l with
  | nil => exact absurd rfl hn
  | cons c r =>
    have hc := h c (by simp)
    unfold Lib.atoi
    have h1 : (c == 45) = false := by
      rw [beq_eq_false_iff_ne]; intro e; rw [e] at hc; simp at hc
    have h2 : (c == 43) = false := by
      rw [beq_eq_false_iff_ne]; intro e; rw [e] at hc; simp at hc
    simp only [h1, h2, Bool.false_eq_true, if_false]
    unfold Lib.decNat
    simp only [List.isEmpty_cons, Bool.false_eq_true, if_false]
    rw [decFrom_eq _ h]; rfl
def APost (w : World) (n : Nat) (e : Ending) (w' : World) : Prop := e = .returned (.tuple #[.int .i64 (n : Int), .nilIface]) ∧ Below w.heap.size w w'
theorem atoi_at (s : ByteArray) (h : Digs s.data.toList) (h0 : 0 < s.size) (hl : s.size ≤ 18) (w : World) : Calls Tryz.prog 116 #[.string s] w (APost w (decv s.data.toList)) := by
  have hne : s.data.toList ≠ [] := by
    intro e
    have : s.data.toList.length = s.size := Array.length_toList
    rw [e] at this; simp at this; omega
  refine (Tryz.strconv_Atoi s _ hl (atoi_digs _ h hne) w).mono ?_
  rintro e w' ⟨rfl, t, rfl⟩
  refine ⟨rfl, ?_, ?_, ?_, ?_, ?_⟩
  · simp [Lib.bytesWorld, World.freeze]; rfl
  · simp [Lib.bytesWorld, World.freeze]
  · simp [Lib.bytesWorld, World.freeze]; rfl
  · rw [Lib.bytesWorld_size]; omega
  · exact fun k hk => Lib.bytesWorld_at_old _ _ _ _ hk
theorem read_more {l : List Nat} {r : List UInt8} {S t : Nat} (h : val l + B ^ l.length * decv r = S) (ht : t ≤ r.length) (h9 : r.length - t = 9 ∨ t = 0) : val (l ++ [decv (r.drop t)]) + B ^ (l ++ [decv (r.drop t)]).length * decv (r.take t) = S := by
  have e : decv r = decv (r.take t) * 10 ^ (r.length - t) + decv (r.drop t) := by
    conv => lhs; rw [← List.take_append_drop t r]
    rw [decv_append, List.length_drop]
  rw [val_append, List.length_append, List.length_singleton, Nat.pow_succ, ← h, e]
  rcases h9 with h9 | h9
  · rw [h9]
    simp only [val, Nat.mul_zero, Nat.add_zero]
    rw [Nat.mul_add, show (10 : Nat) ^ 9 = B from rfl]
    have : B ^ l.length * B * decv (r.take t) = B ^ l.length * (decv (r.take t) * B) := by rw [Nat.mul_assoc, Nat.mul_comm B]
    omega
  · subst h9
    have : decv ([] : List UInt8) = 0 := rfl
    simp [val, this]
def strN : Value → Nat
  | .string r => r.size
  | _ => 0
theorem strN_s (r : ByteArray) : strN (.string r) = r.size := rfl
set_option maxRecDepth 100000 in
set_option maxHeartbeats 4000000 in
theorem readNatural_at (s : ByteArray) (hs : Digs s.data.toList) (hsl : s.size ≤ 1000000000) (w : World) : Calls Tryz.prog 96 #[.string s] w (NPost w (decv s.data.toList)) := by
  have HS := Lib.hid hs
  have HZ : Hid (val [] + B ^ ([] : List Nat).length * decv s.data.toList = decv s.data.toList) := by
    have : val [] + B ^ ([] : List Nat).length * decv s.data.toList = decv s.data.toList := by simp [val]
    exact this
  clear hs
  go_enter Tryz.func96, Tryz.ntmps96
  go_wp2
  go_loopw [0, 3] (fun sv ov wr => ∃ (r : ByteArray) (l : List Nat), sv = .string r ∧ l.length + r.size ≤ s.size ∧ Hid (Digs r.data.toList) ∧ Hid (Dg l) ∧ Hid (val l + B ^ l.length * decv r.data.toList = decv s.data.toList) ∧ Row wr w.heap.size ov l ∧ Below w.heap.size w wr) (fun sv _ _ => strN sv)
  case atStart => exact ⟨s, [], rfl, by simp, HS, Dg.nil, HZ, Row.nil _ _, Below.refl _ _⟩
  case round =>
    clear HZ
    obtain ⟨r, l, rfl, hlen, HR, HD, HV, hrow, hb⟩ := hrel
    have hle := hb.size
    have hrl : r.data.toList.length = r.size := Array.length_toList
    have HRL := Lib.hid hrl
    have hll : l.length ≤ 10000000000 := by omega
    clear hrl
    by_cases h0 : 0 < r.size
    · by_cases h9 : 9 ≤ r.size
      · obtain ⟨t, ht⟩ : ∃ t, r.size = t + 9 := ⟨r.size - 9, by omega⟩
        have HTS := Lib.hid ht
        have hge : (0 : Int) ≤ (r.size : Int) - 9 := by omega
        have htI : (r.size : Int) - 9 = (t : Int) := by omega
        clear ht
        have HCH : Hid ((r.extract t r.size).data.toList = r.data.toList.drop t) := by
          have hht := HTS.out
          have : (r.extract t r.size).data.toList = r.data.toList.drop t := by
            have h1 := ext_list r t (r.size - t)
            rw [show t + (r.size - t) = r.size by omega] at h1
            rw [h1, List.take_of_length_le (by rw [List.length_drop, HRL.out]; omega)]
          exact this
        have hcs : (r.extract t r.size).size = r.size - t := by rw [ByteArray.size_extract]; omega
        have hcs9 : r.size - t = 9 := by have := HTS.out; omega
        have HDT : Hid (Digs (r.extract t r.size).data.toList) := by
          have : Digs (r.extract t r.size).data.toList := by rw [HCH.out]; exact HR.out.drop _
          exact this
        have HDR : Hid (Digs (r.extract 0 t).data.toList) := by
          have : Digs (r.extract 0 t).data.toList := by rw [ext_zero]; exact HR.out.take _
          exact this
        have hc18 : 0 < (r.extract t r.size).size ∧ (r.extract t r.size).size ≤ 9 := by omega
        have HC18 := Lib.hid hc18
        have HV2 : Hid (val (l ++ [decv (r.extract t r.size).data.toList]) + B ^ (l ++ [decv (r.extract t r.size).data.toList]).length * decv (r.extract 0 t).data.toList = decv s.data.toList) := by
          have : val (l ++ [decv (r.extract t r.size).data.toList]) + B ^ (l ++ [decv (r.extract t r.size).data.toList]).length * decv (r.extract 0 t).data.toList = decv s.data.toList := by
            rw [HCH.out, ext_zero]
            exact read_more HV.out (by rw [HRL.out]; have := HTS.out; omega) (by rw [HRL.out]; have := HTS.out; omega)
          exact this
        have hcB : decv (r.extract t r.size).data.toList < 1000000000 := by
          have h1 := decv_lt HDT.out
          have h2 : (r.extract t r.size).data.toList.length = (r.extract t r.size).size := Array.length_toList
          have h3 : 10 ^ (r.extract t r.size).data.toList.length ≤ 10 ^ 9 := Nat.pow_le_pow_right (by decide) (by omega)
          omega
        have HD2 : Hid (Dg (l ++ [decv (r.extract t r.size).data.toList])) := by
          have : Dg (l ++ [decv (r.extract t r.size).data.toList]) := HD.out.append (Dg.cons.2 ⟨hcB, Dg.nil⟩)
          exact this
        have hl2 : (l ++ [decv (r.extract t r.size).data.toList]).length + (r.extract 0 t).size ≤ s.size := by
          rw [List.length_append, List.length_singleton, ByteArray.size_extract]; have := HTS.out; omega
        have HL2 := Lib.hid hl2
        have hsm : (r.extract 0 t).size < r.size := by rw [ByteArray.size_extract]; have := HTS.out; omega
        have HSM := Lib.hid hsm
        clear hc18 hcs hl2 hsm hcs9
        go_wp2_with fail
        refine (atoi_at (r.extract t r.size) HDT.out HC18.out.1 (by have := HC18.out.2; omega) wr).mono ?_
        rintro e w2 ⟨rfl, hb2⟩
        have hrow2 := hrow.ext hb2
        have hbw2 := ext_trans hb hb2
        have hle2 := hbw2.size
        clear hrow hb hb2
        generalize decv (r.extract t r.size).data.toList = C at *
        go_wp2_with (at_builtin; refine wpList_append_wd rfl _ _ rfl w.heap.size rfl hrow2 C rfl rfl hll hle2 ?_; intro v' w' hr' hb')
        go_roundw
        case rel => exact ⟨r.extract 0 t, _, rfl, HL2.out, HDR, HD2, HV2, hr', hbw2.trans hb'⟩
        case measure =>
          rw [strN_s, strN_s]
          exact HSM.out
      · have hmx : max ((r.size : Int) - 9) 0 = 0 := by omega
        have hc18 : 0 < r.size ∧ r.size ≤ 9 := by omega
        have HC18 := Lib.hid hc18
        have HV2 : Hid (val (l ++ [decv r.data.toList]) + B ^ (l ++ [decv r.data.toList]).length * 0 = decv s.data.toList) := by
          have : val (l ++ [decv r.data.toList]) + B ^ (l ++ [decv r.data.toList]).length * 0 = decv s.data.toList := by
            rw [← HV.out, val_append]; simp [val]
          exact this
        have hcB : decv r.data.toList < 1000000000 := by
          have h1 := decv_lt HR.out
          have h3 : 10 ^ r.data.toList.length ≤ 10 ^ 9 := Nat.pow_le_pow_right (by decide) (by rw [HRL.out]; omega)
          omega
        have HD2 : Hid (Dg (l ++ [decv r.data.toList])) := by
          have : Dg (l ++ [decv r.data.toList]) := HD.out.append (Dg.cons.2 ⟨hcB, Dg.nil⟩)
          exact this
        have HL2 : Hid ((l ++ [decv r.data.toList]).length ≤ s.size) := by
          have : (l ++ [decv r.data.toList]).length ≤ s.size := by rw [List.length_append, List.length_singleton]; omega
          exact this
        clear hc18
        go_wp2_with fail
        refine (atoi_at r HR.out HC18.out.1 (by have := HC18.out.2; omega) wr).mono ?_
        rintro e w2 ⟨rfl, hb2⟩
        have hrow2 := hrow.ext hb2
        have hbw2 := ext_trans hb hb2
        have hle2 := hbw2.size
        clear hrow hb hb2
        generalize decv r.data.toList = C at *
        go_wp2_with (at_builtin; refine wpList_append_wd rfl _ _ rfl w.heap.size rfl hrow2 C rfl rfl hll hle2 ?_; intro v' w' hr' hb')
        clear hmx
        go_roundw
        case rel => exact ⟨ByteArray.empty, _, rfl, HL2.out, (fun c hc => by cases hc), HD2, HV2, hr', hbw2.trans hb'⟩
        case measure =>
          rw [strN_s, strN_s]
          exact HC18.out.1
    · have HF : Hid (val l = decv s.data.toList) := by
        have h1 := HV.out
        have h2 : r.data.toList = [] := List.eq_nil_of_length_eq_zero (by rw [HRL.out]; omega)
        rw [h2] at h1
        have : val l = decv s.data.toList := by rw [← h1]; simp [decv]
        exact this
      have hT := trim_at l HD.out _ _ hrow.sl
      rw [HF.out] at hT
      go_wp2_with fail
      refine Calls.mono hT ?_
      rintro e w' ⟨v, rfl, hv, rfl⟩
      clear hT
      go_wp2
      go_ret
      exact ⟨_, rfl, hv, hb⟩
end Nt
end Go.Proofs.YtemenlcigengeaaGreatDoor
