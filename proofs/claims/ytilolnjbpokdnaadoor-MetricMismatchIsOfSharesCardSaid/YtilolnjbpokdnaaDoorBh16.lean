/- WriteString of a strings.Builder of the call's own (the builder's other methods stand in the shelf). text of the reference's natural numbers: the decimal numeral. -/
import Derived.Test.YtilolnjbpokdnaaDoorProg
import Derived.Test.YtilolnjbpokdnaaDoorBh00
import Derived.Lib.Strings
import Derived.Lib.Walk
import Derived.Lib.Builder
import Derived.Lib.AppendStr
import Derived.WalkKit
import Derived.Laws.Externs
import Derived.Test.YtilolnjbpokdnaaDoorBh15
import Derived.Test.YtilolnjbpokdnaaDoorShelf
import Derived.Test.YtilolnjbpokdnaaDoorBh08
import Derived.Lib.SmallJoins
import Derived.Lib.AppendIntMem
namespace Go.Proofs.YtilolnjbpokdnaaDoor
open Go.RowKit
theorem bld_info : ∃ j, Tryd.prog.info? 83 = some j ∧ j.size = 2 :=
  Option.map_eq_some_iff.1 (show (Tryd.prog.info? 83).map (·.size) = some 2 by kernel_rfl)
theorem bld_lies : liesAt Tryd.prog Tryd.prog.depth 83 (2 / Tryd.prog.cellsOf 83) 0 83 1 = true := by kernel_rfl
theorem byte_info : (Tryd.prog.info? 5).map (fun i => (i.zero, i.size, i.bytes)) = some (some (.int .u8 0), 1, 1) := by kernel_rfl
set_option maxHeartbeats 1000000 in
set_option maxRecDepth 100000 in
theorem bld_check_used (b : Nat) (w : World) (h0 : w.cell? ⟨b, 0, none⟩ = some (.pointer (some ⟨b, 0, none⟩))) :
    Calls Tryd.prog 57 #[.pointer (some ⟨b, 0, none⟩)] w fun e w' => e = .returned (.tuple #[]) ∧ w' = w := by
  obtain ⟨j, hj, _⟩ := bld_info
  go_enter Tryd.func57, Tryd.ntmps57
  go_wp2
  rw [Lib.run_neq_ptr_same w _ Tryd.underlying81 hj]
  go_wp2
  go_end0
  exact ⟨rfl, rfl⟩
set_option maxHeartbeats 1000000 in
set_option maxRecDepth 100000 in
theorem bld_check_fresh (b : Nat) (w : World) (h0 : w.cell? ⟨b, 0, none⟩ = some (.pointer none)) (hsh : w.shape? b = some (83, 2)) (hfz : w.frozen? ⟨b, 0, none⟩ = false) :
    Calls Tryd.prog 57 #[.pointer (some ⟨b, 0, none⟩)] w fun e w' => e = .returned (.tuple #[]) ∧ w' = w.setCell ⟨b, 0, none⟩ (.pointer (some ⟨b, 0, none⟩)) := by
  obtain ⟨j, hj, hjs⟩ := bld_info
  go_enter Tryd.func57, Tryd.ntmps57
  go_wp2
  rw [Lib.run_to_unsafe w ⟨b, 0, none⟩ Tryd.underlying81 Tryd.underlying96 hj (by rw [hjs]; decide) hsh (Nat.zero_lt_succ 1)]
  simp only [Result.andThen]
  rw [Oper.upon_value]
  go_wp2
  rw [run_callFunc_extern Tryd.func63 (by kernel_rfl) (by kernel_rfl) (by kernel_rfl) (e := Extern.AbiNoEscape.same) (by kernel_rfl)]
  rw [Lib.run_noEscape]
  simp only [Result.andThen]
  rw [Oper.upon_value]
  go_wp2
  rw [Lib.run_from_unsafe w ⟨b, 0, none⟩ Tryd.underlying96 Tryd.underlying81 hj hsh bld_lies]
  simp only [Result.andThen]
  rw [Oper.upon_value]
  go_wp2
  go_end0
  exact ⟨rfl, rfl⟩
theorem bld_check (B b : Nat) (bs : List Value) (w : World) (h : Lib.IsBuilder 83 5 B b bs w) :
    Calls Tryd.prog 57 #[.pointer (some ⟨b, 0, none⟩)] w fun e w' => e = .returned (.tuple #[]) ∧ (Lib.BuilderAt 83 5 B b (.pointer (some ⟨b, 0, none⟩)) bs w' ∧ Below B w w') := by
  rcases h with h | h
  · refine (bld_check_fresh b w h.cell0 h.shape h.frozen0).mono ?_
    rintro e w' ⟨rfl, rfl⟩
    exact ⟨rfl, h.used _, (Below.refl B w).setCell (p := ⟨b, 0, none⟩) h.1 _⟩
  · refine (bld_check_used b w h.cell0).mono ?_
    rintro e w' ⟨rfl, rfl⟩
    exact ⟨rfl, h, Below.refl B _⟩
set_option maxHeartbeats 2000000 in
set_option maxRecDepth 100000 in
/-- WriteString, under Go's own limit -/
theorem bld_write (B b : Nat) (bs : List Value) (s : ByteArray) (w : World) (h : Lib.IsBuilder 83 5 B b bs w) (hlen : bs.length + s.size ≤ 140737488355328) (hBw : B ≤ w.heap.size) :
    Calls Tryd.prog 52 #[.pointer (some ⟨b, 0, none⟩), .string s] w fun e w' => e = .returned (.tuple #[.int .i64 s.size, .nilIface]) ∧ (Lib.IsBuilder 83 5 B b (bs ++ Lib.strCells s) w' ∧ Below B w w') := by
  obtain ⟨i0, hi, hz0, hz1, hz2⟩ := info_parts byte_info
  go_enter Tryd.func52, Tryd.ntmps52
  go_wp2_with (go_at_call 57; refine (bld_check B b bs _ h).mono ?_)
  rintro e w1 ⟨rfl, h1, hb1⟩
  obtain ⟨hB, v, hbk, hown, hne⟩ := h1
  have c0 : w1.cell? ⟨b, 0, none⟩ = some (.pointer (some ⟨b, 0, none⟩)) := by rw [Lib.cell_of_heap hbk]; rfl
  have c1 : w1.cell? ⟨b, 1, none⟩ = some v := by rw [Lib.cell_of_heap hbk]; rfl
  go_wp2_with (at_builtin; refine Lib.wpList_append_own_string _ rfl _ _ 61 9 rfl B 5 i0 Tryd.underlying61 Tryd.underlying9 hi hz0 hz1 hz2 _ _ _ rfl hown s rfl ?c3 ?c4 ?c5 ?_)
  case c3 => unfold maxLen; omega
  case c4 => omega
  case c5 => have := hb1.size; omega
  intro v' w2 hown' hgrow _
  have hlt : b < w1.heap.size := by
    rcases Nat.lt_or_ge b w1.heap.size with h' | h'
    · exact h'
    · simp [Array.getElem?_eq_none h'] at hbk
  have hb2 : w2.heap[b]? = some (.cells #[.pointer (some ⟨b, 0, none⟩), v] 83 (0, 0)) := by
    rw [hgrow.block b hlt (fun e => hne e.symm)]
    exact hbk
  have d0 : w2.cell? ⟨b, 0, none⟩ = some (.pointer (some ⟨b, 0, none⟩)) := by rw [Lib.cell_of_heap hb2]; rfl
  have d1 : w2.cell? ⟨b, 1, none⟩ = some v := by rw [Lib.cell_of_heap hb2]; rfl
  have f1 : w2.frozen? ⟨b, 1, none⟩ = false := Lib.frozen_of_heap hb2 1
  obtain ⟨ao, n', cap, rfl⟩ : ∃ ao n' cap, v' = .slice ao n' cap := by
    rcases hown'.2 with ⟨hv, _⟩ | ⟨g, cap, cur, hv, _⟩
    · exact ⟨_, _, _, hv⟩
    · exact ⟨_, _, _, hv⟩
  go_wp2
  go_ret2
  refine ⟨rfl, .inr ?_, ?_⟩
  · exact Lib.BuilderAt.put (T := 83) (e := 5) hB hb2 (bs' := bs ++ Lib.strCells s) (by simpa [Lib.strCells_length] using hown') (by decide)
  · exact (hb1.grown hgrow (by have := hb1.size; omega) (fun k hk => (hown.lt k hk).1)).setCell (p := ⟨b, 1, none⟩) hB _
end Go.Proofs.YtilolnjbpokdnaaDoor
namespace Go.Proofs.YtilolnjbpokdnaaDoor
open Go.RowKit
namespace Nt
open _root_.Go.Proofs.YtilolnjbpokdnaaDoor.Nm (decS decv Digs Whl dch digv whl_eq decS_whl decS_digs decv_decS decS_length decv_append decS_small decS_big)
/-- the table that strconv reads -/
def Tab (w : World) : Prop := Lib.TabIs Tryd.prog w "internal/strconv.uint64pow10" .u64 Lib.pow10Tab
theorem Tab.ext {w w' : World} (h : Tab w) (hb : Below w.heap.size w w') : Tab w' := by
  cases hg : Tryd.prog.globalNamed "internal/strconv.uint64pow10" with
  | none => unfold Tab Lib.TabIs World.var? at h; rw [hg] at h; cases h
  | some g => exact Joins.tab_stays hg h hb (Nat.le_refl _)
theorem decDigits_eq' (u : Nat) : Lib.decDigits u = decS u := by
  induction u using Nat.strongRecOn with
  | ind u ih =>
    by_cases h : u < 10
    · rw [Lib.decDigits, dif_pos h, decS_small h]; rfl
    · rw [Lib.decDigits, dif_neg h, decS_big h, ih _ (by omega)]; rfl
theorem itoa_nat (n : Nat) : Lib.itoa (n : Int) = decS n := by
  unfold Lib.itoa
  rw [if_neg (by omega), Int.toNat_natCast, decDigits_eq']
def strOf (l : List UInt8) : ByteArray := ⟨l.toArray⟩
theorem strOf_size (l : List UInt8) : (strOf l).size = l.length := by simp [strOf, ByteArray.size]
def SPost (w : World) (l : List UInt8) (e : Ending) (w' : World) : Prop := e = .returned (.string (strOf l)) ∧ Below w.heap.size w w'
theorem itoa_at (n : Nat) (hn : n ≤ 9223372036854775807) (w : World) (ht : Tab w) : Calls Tryd.prog 53 #[.int .i64 (n : Int)] w (SPost w (decS n)) := by
  refine (Tryd.strconv_Itoa (n : Int) (by omega) (by omega) w ht).mono ?_
  rintro e w' ⟨rfl, k, os, rfl⟩
  exact ⟨by rw [itoa_nat]; rfl, Lib.below_grow _ _ (Nat.le_refl _) _ _⟩
theorem repeatL_one (c : UInt8) (n : Nat) : Lib.repeatL [c] n = List.replicate n c := by
  induction n with
  | zero => rfl
  | succ n ih =>
    have e : Lib.repeatL [c] (n + 1) = [c] ++ Lib.repeatL [c] n := by simp [Lib.repeatL]
    rw [e, ih]; rfl
theorem zeros_at (n : Nat) (hn : n ≤ 1000000) (w : World) : Calls Tryd.prog 54 #[.string ⟨#[48]⟩, .int .i64 (n : Int)] w (SPost w (List.replicate n 48)) := by
  have hsz : ByteArray.size ⟨#[48]⟩ = 1 := rfl
  refine (Tryd.strings_Repeat ⟨#[48]⟩ n w (by omega) (by rw [hsz]; omega)).mono ?_
  rintro e w' ⟨rfl, hb⟩
  exact ⟨by rw [show (⟨#[48]⟩ : ByteArray).data.toList = [48] from rfl, repeatL_one]; rfl, hb⟩
theorem decv_zeros (n : Nat) : decv (List.replicate n 48) = 0 := by
  induction n with
  | zero => rfl
  | succ n ih => rw [List.replicate_succ', decv_append, ih]; rfl
/-- nine digits behind a numeral -/
theorem decS_more {q x : Nat} (hq : 0 < q) (hx : x < B) : decS (x + B * q) = decS q ++ (List.replicate (9 - (decS x).length) 48 ++ decS x) := by
  have hl : (decS x).length ≤ 9 := decS_length (by rw [B_eq] at hx; exact hx) (by omega)
  refine (whl_eq _ _ ⟨?_, ?_⟩ ?_).symm
  · intro c hc
    rcases List.mem_append.1 hc with hc | hc
    · exact decS_digs q c hc
    · rcases List.mem_append.1 hc with hc | hc
      · rw [(List.mem_replicate.1 hc).2]; decide
      · exact decS_digs x c hc
  · obtain ⟨hd, c, r, h1, h2⟩ := decS_whl q
    refine ⟨c, _, by rw [h1]; rfl, fun _ => ?_⟩
    by_cases hr : r = []
    · subst hr
      intro hc
      have hv := decv_decS q
      rw [h1] at hv
      have : decv [c] = 0 := by unfold decv digv; simp [hc]
      omega
    · exact h2 hr
  · rw [decv_append, decv_append, decv_zeros, decv_decS, decv_decS, List.length_append, List.length_replicate, show 9 - (decS x).length + (decS x).length = 9 by omega, B_eq]
    omega
theorem decS_len (l : List Nat) (hd : Dg l) : (decS (val l)).length ≤ 9 * l.length + 1 := by
  refine decS_length ?_ (by omega)
  have h1 := val_lt hd
  have h2 : B ^ l.length ≤ 10 ^ (9 * l.length + 1) := by
    rw [Nat.pow_succ, Nat.pow_mul, B_eq]
    exact Nat.le_mul_of_pos_right _ (by decide)
  omega
abbrev Bd (B b : Nat) (l : List UInt8) (w : World) : Prop := Lib.IsBuilder 83 5 B b (Lib.byteCells l) w
theorem strCells_of (l : List UInt8) : Lib.strCells (strOf l) = Lib.byteCells l := rfl
theorem byteCells_app (l m : List UInt8) : Lib.byteCells (l ++ m) = Lib.byteCells l ++ Lib.byteCells m := by simp [Lib.byteCells]
theorem Bd.ext {B b : Nat} {l : List UInt8} {w w' : World} (h : Bd B b l w) (hb : Below w.heap.size w w') : Bd B b l w' := by
  have key : ∀ p, Lib.BuilderAt 83 5 B b p (Lib.byteCells l) w → Lib.BuilderAt 83 5 B b p (Lib.byteCells l) w' := fun p hp => by
    have hlt := hp.lt
    obtain ⟨h1, v, h2, h3, h4⟩ := hp
    exact ⟨h1, v, (hb.block b hlt).trans h2, ownsRow_ext h3 hb, h4⟩
  exact h.elim (fun x => .inl (key _ x)) (fun x => .inr (key _ x))
def WPost (B b : Nat) (l : List UInt8) (w : World) (n : Nat) (e : Ending) (w' : World) : Prop := e = .returned (.tuple #[.int .i64 (n : Int), .nilIface]) ∧ Bd B b l w' ∧ Below B w w'
theorem write_at (B b : Nat) (l m : List UInt8) (w : World) (h : Bd B b l w) (hlen : l.length + m.length ≤ 140737488355328) (hBw : B ≤ w.heap.size) :
    Calls Tryd.prog 52 #[.pointer (some ⟨b, 0, none⟩), .string (strOf m)] w (WPost B b (l ++ m) w m.length) := by
  refine (bld_write B b (Lib.byteCells l) (strOf m) w h (by rw [Lib.byteCells_length, strOf_size]; exact hlen) hBw).mono ?_
  rintro e w' ⟨rfl, h1, h2⟩
  refine ⟨by rw [strOf_size], ?_, h2⟩
  rw [strCells_of, ← byteCells_app] at h1
  exact h1
set_option maxRecDepth 100000 in
set_option maxHeartbeats 4000000 in
theorem text_at (x : Nat) (v : Value) (w : World) (hx : N w v x) (hxl : wlen x ≤ 1000000000) (ht : Tab w) : Calls Tryd.prog 37 #[v] w (SPost w (decS x)) := by
  obtain ⟨a, c, rfl, s1⟩ := hx.open_
  obtain ⟨p1, p2⟩ := sl_caps s1
  have HX := Lib.hid (digs_dg x)
  have HT := Lib.hid ht
  have HC := Lib.hid (digs_can x)
  have HVX := Lib.hid (val_digs x)
  unfold wlen at hxl
  clear hx ht
  by_cases h0 : (digs x).length = 0
  · have HE : Hid (decS x = [48]) := by
      have hx0 : x = 0 := wlen_eq_zero.1 h0
      have : decS x = [48] := by rw [hx0, decS_small (by omega)]; rfl
      exact this
    rw [h0]
    clear h0
    go_enter Tryd.func37, Tryd.ntmps37
    go_wp2
    go_ret
    exact ⟨by rw [HE.out]; rfl, Below.refl _ _⟩
  · have hb0 : (((digs x).length : Int) == 0) = false := beq_eq_false_iff_ne.2 (by omega)
    have hm1 : (digs x).length - 1 < (digs x).length := by omega
    have hmI : (((digs x).length - 1 : Nat) : Int) = ((digs x).length : Int) - 1 := by omega
    obtain ⟨b, o, rfl, e0⟩ := sl_addr s1 (wcs_get hm1)
    have hX := HX.out.get hm1
    have HTOP : Hid (val ((digs x).drop ((digs x).length - 1)) = (digs x)[(digs x).length - 1] ∧ 0 < (digs x)[(digs x).length - 1]) := by
      have h1 := val_drop (digs x) ((digs x).length - 1) hm1
      rw [List.drop_of_length_le (show (digs x).length ≤ (digs x).length - 1 + 1 by omega)] at h1
      have h2 := HC.out (fun h => by rw [h] at h0; exact h0 rfl)
      rw [List.getLast_eq_getElem] at h2
      have : val ((digs x).drop ((digs x).length - 1)) = (digs x)[(digs x).length - 1] ∧ 0 < (digs x)[(digs x).length - 1] := ⟨by rw [h1]; simp [val], Nat.pos_of_ne_zero h2⟩
      exact this
    generalize (digs x)[(digs x).length - 1] = X at *
    rw [B_eq] at hX
    go_enter Tryd.func37, Tryd.ntmps37
    go_upto_region 4 with (fail)
    have hbd0 : Bd w.heap.size w.heap.size [] (w.alloc (.cells #[.pointer none, .slice none 0 0] 83)) :=
      .inl ⟨Nat.le_refl _, .slice none 0 0, by show (w.heap.push _)[w.heap.size]? = _; simp, ⟨by simp [Lib.byteCells], .inl ⟨rfl, rfl⟩⟩, (fun h => by cases h)⟩
    have hb1 := ext_alloc w (.cells #[.pointer none, .slice none 0 0] 83)
    have hlt1 : w.heap.size ≤ (w.alloc (.cells #[.pointer none, .slice none 0 0] 83)).heap.size := by simp
    have e1 : (w.alloc (.cells #[.pointer none, .slice none 0 0] 83)).cell? ⟨b, o + ((digs x).length - 1), none⟩ = some (.int .i64 (X : Int)) := (hb1.cell (World.block_lt_of_cell? w _ e0)).trans e0
    have HT1 := Lib.hid (HT.out.ext hb1)
    have HS0 := Lib.hid s1
    clear e0 s1
    generalize w.alloc (.cells #[.pointer none, .slice none 0 0] 83) = W1 at *
    go_wp2_with fail
    refine (itoa_at X (by omega) W1 HT1.out).mono ?_
    rintro e w2 ⟨rfl, hb2⟩
    have hbd2 := hbd0.ext hb2
    have hbw2 := ext_trans hb1 hb2
    have hX9 : (decS X).length ≤ 9 := decS_length hX (by omega)
    have HX9 := Lib.hid hX9
    clear e1 hbd0 hb1 hlt1
    have hle2 : w.heap.size ≤ w2.heap.size := hbw2.size
    go_wp2_with fail
    refine (write_at w.heap.size w.heap.size [] (decS X) w2 hbd2 (by simp; omega) hle2).mono ?_
    rintro e w3 ⟨rfl, hbd3, hb3⟩
    rw [List.nil_append] at hbd3
    have hbw3 : Below w.heap.size w w3 := hbw2.trans hb3
    rw [← HTOP.out.1] at hbd3
    have HTB := Lib.hid (show Tab w from HT.out)
    have HS := Lib.hid (show Sl w (.slice (some ⟨b, o, none⟩) (digs x).length c) (digs x).length (wcs (digs x)) from HS0.out)
    have hlenX : (digs x).length ≤ 1000000000 := hxl
    have HV0 : Hid (0 < val ((digs x).drop ((digs x).length - 1))) := by
      have : 0 < val ((digs x).drop ((digs x).length - 1)) := by rw [HTOP.out.1]; exact HTOP.out.2
      exact this
    clear HT1 hbd2 hbw2 hle2 hX9 HX9 HTOP hb2 hb3
    go_wp2
    go_loopw [4] (fun iv wr => ∃ k : Nat, k ≤ (digs x).length - 1 ∧ iv = .int .i64 ((k : Int) - 1) ∧ Hid (0 < val ((digs x).drop k)) ∧ Bd w.heap.size w.heap.size (decS (val ((digs x).drop k))) wr ∧ Below w.heap.size w wr) (fun iv _ => (intOf iv + 1).toNat)
    case atStart => exact ⟨(digs x).length - 1, Nat.le_refl _, (by refine congrArg (Value.int .i64) ?_; omega), HV0, hbd3, hbw3⟩
    case round =>
      clear HV0 hbd3 hbw3
      obtain ⟨k, hk, rfl, HV, hbd, hbw⟩ := hrel
      cases k with
      | zero =>
        rw [List.drop_zero, HVX.out] at hbd
        have hle := hbw.size
        go_wp2_with fail
        refine (Tryd.Builder_String_any w.heap.size w.heap.size _ wr hbd hle).mono ?_
        rintro e w9 ⟨rfl, hb9⟩
        go_wp2
        go_ret
        exact ⟨rfl, hbw.trans hb9⟩
      | succ j =>
        have hj : j < (digs x).length := by omega
        rw [show (((j + 1 : Nat) : Int) - 1) = (j : Int) by omega]
        obtain ⟨b', o', hbo, e0⟩ := sl_addr (HS.out.ext hbw) (wcs_get hj)
        cases hbo
        have hXj := HX.out.get hj
        have HVD := Lib.hid (val_drop (digs x) j hj)
        generalize (digs x)[j] = Y at *
        have HDM := Lib.hid (decS_more HV.out hXj)
        rw [B_eq] at hXj
        have hY9 : (decS Y).length ≤ 9 := decS_length hXj (by omega)
        have hDL : (decS (val ((digs x).drop (j + 1)))).length ≤ 9000000001 := by
          have h1 := decS_len ((digs x).drop (j + 1)) (HX.out.drop (j + 1))
          rw [List.length_drop] at h1
          omega
        have HTr := Lib.hid (HTB.out.ext hbw)
        go_wp2_with fail
        refine (itoa_at Y (by omega) wr HTr.out).mono ?_
        rintro e w2 ⟨rfl, hb2⟩
        have hbd2 := hbd.ext hb2
        have hbw2 := ext_trans hbw hb2
        obtain ⟨s, hs⟩ : ∃ s, s = decS Y := ⟨_, rfl⟩
        rw [← hs] at hY9 HDM ⊢
        have hsz : (strOf s).size = s.length := strOf_size s
        have HSZ := Lib.hid hsz
        clear e0 hbd hbw hb2 hs
        obtain ⟨z, hz⟩ : ∃ z : Nat, z = 9 - s.length := ⟨_, rfl⟩
        have hzI : (9 : Int) - (s.length : Int) = (z : Int) := by omega
        have hz9 : z ≤ 9 := by omega
        rw [← hz] at HDM
        clear hz
        go_wp2_with fail
        refine (zeros_at z (by omega) w2).mono ?_
        rintro e w3 ⟨rfl, hb3⟩
        have hbd3 := hbd2.ext hb3
        have hbw3 := ext_trans hbw2 hb3
        have hle3 := hbw3.size
        clear hbd2 hbw2 hb3 hzI hsz
        go_wp2_with fail
        refine (write_at w.heap.size w.heap.size _ (List.replicate z 48) w3 hbd3 (by rw [List.length_replicate]; omega) hle3).mono ?_
        rintro e w4 ⟨rfl, hbd4, hb4⟩
        have hbw4 := hbw3.trans hb4
        have hle4 := hbw4.size
        clear hbd3 hbw3 hle3 hb4
        go_wp2_with fail
        refine (write_at w.heap.size w.heap.size _ s w4 hbd4 (by rw [List.length_append, List.length_replicate]; omega) hle4).mono ?_
        rintro e w5 ⟨rfl, hbd5, hb5⟩
        have hbw5 := hbw4.trans hb5
        rw [List.append_assoc, ← HDM.out, ← HVD.out] at hbd5
        have HV5 : Hid (0 < val ((digs x).drop j)) := by
          have h1 := HVD.out
          have h2 := HV.out
          have : 0 < val ((digs x).drop j) := by
            rw [h1]
            have := Nat.mul_pos B_pos h2
            omega
          exact this
        clear hbd4 hbw4 hle4 hb5 HDM HVD
        go_wp2
        go_roundw
        case rel => exact ⟨j, by omega, by go_num, HV5, hbd5, hbw5⟩
        case measure => simp [intOf] <;> omega
end Nt
end Go.Proofs.YtilolnjbpokdnaaDoor
