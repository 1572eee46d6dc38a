/- readAll of package metric. Printed by gen_arm.py. -/
import Derived.Test.YtlbnjgnbpiidaaaGreatDoorB832
import Derived.Test.YtlbnjgnbpiidaaaGreatDoorB813
namespace Go.Proofs.YtlbnjgnbpiidaaaGreatDoor
open Go.RowKit
namespace Nm
open _root_.Go.Proofs.YtlbnjgnbpiidaaaGreatDoor.Nt (RH RH.cell RH.box RH.row RH.lt RH.new RH.ext RH.fre RH.set RH.other RH.row_other store_cells)

structure SN where
 n : Int
 t : Y5
def snL (s : SN) : List Value := [.int .i64 s.n, .bool s.t.x.b, .slice s.t.x.a1 s.t.x.n1 s.t.x.c1, .slice s.t.x.a2 s.t.x.n2 s.t.x.c2, .bool s.t.y.b, .slice s.t.y.a1 s.t.y.n1 s.t.y.c1, .slice s.t.y.a2 s.t.y.n2 s.t.y.c2, .bool s.t.xx.b, .slice s.t.xx.a1 s.t.xx.n1 s.t.xx.c1, .slice s.t.xx.a2 s.t.xx.n2 s.t.xx.c2, .bool s.t.yy.b, .slice s.t.yy.a1 s.t.yy.n1 s.t.yy.c1, .slice s.t.yy.a2 s.t.yy.n2 s.t.yy.c2, .bool s.t.xy.b, .slice s.t.xy.a1 s.t.xy.n1 s.t.xy.c1, .slice s.t.xy.a2 s.t.xy.n2 s.t.xy.c2]
theorem sums_info : (Tryz.prog.info? 59).map (fun i => (i.zero, i.size, i.bytes)) = some (some (.agg #[.int .i64 0, .bool false, .slice none 0 0, .slice none 0 0, .bool false, .slice none 0 0, .slice none 0 0, .bool false, .slice none 0 0, .slice none 0 0, .bool false, .slice none 0 0, .slice none 0 0, .bool false, .slice none 0 0, .slice none 0 0]), 16, 288) := by kernel_rfl
theorem SX.keepQ {w w' : World} {v : Value} {t : Y5} {q : Q5} (h : SX w t q) (hR : RowQ NW w v) (hg : w.grownBy w' v.ownBlock) : SX w' t q := ⟨h.x.keepQ hR hg, h.y.keepQ hR hg, h.xx.keepQ hR hg, h.yy.keepQ hR hg, h.xy.keepQ hR hg⟩
/-- sums read so far, in a row of the call's own -/
structure AL (w wr : World) (base : Nat) (l : List MV) (v : Value) (k : Nat) (ss : List SN) : Prop where
 low : Below w.heap.size w wr
 own : wr.ownsRow base 59 16 v k (ss.flatMap snL)
 q : RowQ NW wr v
 len : ss.length = k
 ok : ∀ (i : Nat) s m, ss[i]? = some s → l[i]? = some m → s.n = m.n ∧ SX wr s.t m.r.q
 bs : base ≤ wr.heap.size
 lw : w.heap.size ≤ base
theorem AL.ext {w wr w' : World} {base : Nat} {l : List MV} {v : Value} {k : Nat} {ss : List SN} (h : AL w wr base l v k ss) (hb : Below wr.heap.size wr w') : AL w w' base l v k ss :=
 ⟨ext_trans h.low hb, ownsRow_ext h.own hb, h.q.ext h.own hb, h.len, fun i x r h1 h2 => ⟨(h.ok i x r h1 h2).1, (h.ok i x r h1 h2).2.ext hb⟩, Nat.le_trans h.bs hb.size, h.lw⟩
theorem AL.push {w wr w' : World} {base : Nat} {l : List MV} {v v' : Value} {k : Nat} {ss : List SN} (h : AL w wr base l v k ss) (s : SN) (hg : wr.grownBy w' v.ownBlock)
  (hown : w'.ownsRow base 59 16 v' (k + 1) (ss.flatMap snL ++ snL s)) (hq : RowQ NW w' v') {m : MV} (hr : l[k]? = some m) (hx : s.n = m.n ∧ SX wr s.t m.r.q) : AL w w' base l v' (k + 1) (ss ++ [s]) := by
 have lt : ∀ q, v.ownBlock = some q → base ≤ q := fun q e => (h.own.lt q e).1
 have h1 := h.lw
 refine ⟨h.low.grown hg h.low.size (fun q e => by have := lt q e; omega), ?_, hq, by rw [List.length_append, h.len]; rfl, ?_, Nat.le_trans h.bs hg.size, h1⟩
 ·rw [List.flatMap_append]; simpa using hown
 ·intro i x' r' e1 e2
  rcases Nat.lt_or_ge i k with hi | hi
  ·rw [List.getElem?_append_left (by rw [h.len]; exact hi)] at e1
   exact ⟨(h.ok i x' r' e1 e2).1, (h.ok i x' r' e1 e2).2.keepQ h.q hg⟩
  ·rw [List.getElem?_append_right (by rw [h.len]; exact hi), h.len] at e1
   have hi' : i - k = 0 := by
    rcases Nat.eq_zero_or_pos (i - k) with h0 | h0
    ·exact h0
    ·rw [List.getElem?_eq_none (by simp; omega)] at e1; cases e1
   rw [hi'] at e1
   obtain rfl : s = x' := by simpa using e1
   have hik : i = k := by omega
   subst hik
   rw [hr] at e2
   cases e2
   exact ⟨hx.1, hx.2.keepQ h.q hg⟩
/-- sums that lie in memory as the moments of a list say -/
structure SsOf (w : World) (l : List MV) (ss : List SN) (a : Option Addr) (c : Nat) : Prop where
 len : ss.length = l.length
 sl : Sl w (.slice a ss.length c) ss.length (ss.flatMap snL)
 ok : ∀ (i : Nat) s m, ss[i]? = some s → l[i]? = some m → s.n = m.n ∧ SX w s.t m.r.q
theorem SsOf.ext {w w' : World} {l : List MV} {ss : List SN} {a : Option Addr} {c : Nat} (h : SsOf w l ss a c) (hb : Below w.heap.size w w') : SsOf w' l ss a c :=
 ⟨h.len, h.sl.ext hb, fun i x r h1 h2 => ⟨(h.ok i x r h1 h2).1, (h.ok i x r h1 h2).2.ext hb⟩⟩
theorem own_fresh2 {w : World} {base e size n : Nat} {v : Value} {xs : List Value} (h : w.ownsRow base e size v n xs) (hn : 0 < n) : ∃ g cap, v = .slice (some ⟨g, 0, none⟩) n cap ∧ base ≤ g := by
 obtain ⟨h1, ⟨_, h2⟩ | ⟨g, cap, cur, rfl, hb, _⟩⟩ := h
 ·omega
 ·exact ⟨g, cap, rfl, hb⟩
def ssAny (p : Int → Bool) (ss : List SN) : Bool := ss.any fun s => p s.n
theorem ssAny_step (p : Int → Bool) {l : List SN} {k : Nat} (h : k < l.length) : ssAny p (l.drop k) = (p l[k].n || ssAny p (l.drop (k + 1))) := by
 rw [List.drop_eq_getElem_cons h]; rfl
theorem ssAny_few {w : World} {l : List MV} {ss : List SN} {a : Option Addr} {c : Nat} (h : SsOf w l ss a c) {p : Int → Bool} {k : Int} (hp : ∀ m ∈ l, p m.n = decide (m.n < k)) : ssAny p ss = fewL k l := by
 have e : ss.map SN.n = l.map MV.n := by
  refine List.ext_getElem? fun i => ?_
  rw [List.getElem?_map, List.getElem?_map]
  by_cases hi : i < l.length
  ·have h1 := List.getElem?_eq_getElem hi
   have h2 := List.getElem?_eq_getElem (show i < ss.length by rw [h.len]; exact hi)
   rw [h1, h2]
   exact congrArg some (h.ok i _ _ h2 h1).1
  ·rw [List.getElem?_eq_none (show l.length ≤ i by omega), List.getElem?_eq_none (show ss.length ≤ i by rw [h.len]; omega)]; rfl
 have e1 : ssAny p ss = (ss.map SN.n).any p := by unfold ssAny; rw [List.any_map]; rfl
 have e2 : fewL k l = l.any fun m => p m.n := by
  unfold fewL
  rw [Bool.eq_iff_iff, List.any_eq_true, List.any_eq_true]
  constructor <;> rintro ⟨m, hm, h1⟩ <;> refine ⟨m, hm, ?_⟩
  ·rw [hp m hm]; exact h1
  ·rw [hp m hm] at h1; exact h1
 rw [e1, e2, e, List.any_map]; rfl
def SsPost (w : World) (l : List MV) (e : Ending) (w' : World) : Prop := ∃ a c ss, e = .returned (.tuple #[.slice a ss.length c, .int .i64 (raF 1 l)]) ∧ (raF 1 l = 0 → SsOf w' l ss a c) ∧ Below w.heap.size w w'
set_option maxRecDepth 100000 in
set_option maxHeartbeats 16000000 in
theorem one_at (n : Int) (b : Bool) (hb : decide (n = 0) = b) (t : Y5) (w : World) : Calls Tryz.prog 50 #[.agg (smA n t)] w (BPost w b) := by
 go_enter Tryz.func50, Tryz.ntmps50
 go_upto_region 1 with (fail)
 refine wp_rows1 fun w1' hbz hR0 => ?_
 have HR_s : Hid (RH w1' w.heap.size (smA (n) t) 59) := Lib.hid hR0
 have HW := Lib.hid hbz
 clear hbz hR0
 obtain ⟨c_s_0, -, -, -, -, -, -, -, -, -, -, -, -, -, -, -⟩ := zs16 HR_s.out
 go_wp2
 exact bodyPost_ret (v := .bool b) (by simp [results, Tryz.results50, go_sem, ← hb] <;> rw [Bool.eq_iff_iff] <;> simp) rfl ⟨rfl, HW.out⟩
set_option maxRecDepth 100000 in
set_option maxHeartbeats 16000000 in
theorem two_at (n : Int) (b : Bool) (hb : decide (n < 2) = b) (t : Y5) (w : World) : Calls Tryz.prog 26 #[.agg (smA n t)] w (BPost w b) := by
 go_enter Tryz.func26, Tryz.ntmps26
 go_upto_region 1 with (fail)
 refine wp_rows1 fun w1' hbz hR0 => ?_
 have HR_s : Hid (RH w1' w.heap.size (smA (n) t) 59) := Lib.hid hR0
 have HW := Lib.hid hbz
 clear hbz hR0
 obtain ⟨c_s_0, -, -, -, -, -, -, -, -, -, -, -, -, -, -, -⟩ := zs16 HR_s.out
 go_wp2
 exact bodyPost_ret (v := .bool b) (by simp [results, Tryz.results26, go_sem, ← hb] <;> rw [Bool.eq_iff_iff] <;> simp) rfl ⟨rfl, HW.out⟩
set_option maxRecDepth 100000 in
set_option maxHeartbeats 16000000 in
theorem index_at (fid : FuncId) (hE : ∀ args w, (callFunc fid args).run Tryz.prog w = .ok (.enter fid args) w) (p : Int → Bool) (hc : ∀ (n : Int) (b : Bool) (_ : p n = b) (t : Y5) (w : World), Calls Tryz.prog fid #[.agg (smA n t)] w (BPost w b)) (ss : List SN) (a : Option Addr) (c : Nat) (w : World) (hs : Sl w (.slice a ss.length c) ss.length (ss.flatMap snL)) : Calls Tryz.prog 54 #[.slice a ss.length c, .func (.func fid) #[] #[]] w (fun e w' => ∃ i : Int, e = .returned (.int .i64 i) ∧ decide (0 ≤ i) = ssAny p ss ∧ Below w.heap.size w w') := by
 have hssl : ss.length ≤ 9223372036854775807 := by obtain ⟨_, _, hv, h1, h2, _⟩ := hs; cases hv; unfold maxLen at h2; omega
 have HS := Lib.hid hs
 have HC := Lib.hid hc
 clear hs hc
 go_enter Tryz.func54, Tryz.ntmps54
 have HW : Hid (Below w.heap.size w w) := Lib.hid (Below.refl _ _)
 go_wp2
 go_loopw [8] (fun i wr => ∃ k : Nat, k ≤ ss.length ∧ i = .int .i64 (k : Int) ∧ Hid (ssAny p ss = ssAny p (ss.drop k)) ∧ (Below w.heap.size w wr)) (fun i _ => ss.length - (intOf i).toNat)
 case atStart => exact ⟨0, by omega, rfl, rfl, HW.out⟩
 case round =>
  obtain ⟨k, hk, rfl, HK, q_HW⟩ := hrel
  clear HW
  have HW := Lib.hid q_HW
  clear q_HW
  generalize hX : wr = X at *
  clear hX
  by_cases hlt : k < ss.length
  ·have hgk := List.getElem?_eq_getElem hlt
   have HST := Lib.hid (ssAny_step p hlt)
   generalize ss[k] = sn at *
   obtain ⟨sn_, st⟩ := sn
   obtain ⟨pb, po, hp9, hcs⟩ := (HS.out.ext HW.out).elem (f := snL) (fun _ => rfl) (by omega : 0 < 16) hgk
   subst hp9
   have e0 : X.cell? ⟨pb, po + k * 16, none⟩ = some (.int .i64 (sn_)) := hcs 0 _ rfl
   have e1 : X.cell? ⟨pb, po + k * 16 + 1, none⟩ = some (.bool st.x.b) := hcs 1 _ rfl
   have e2 : X.cell? ⟨pb, po + k * 16 + 2, none⟩ = some (.slice st.x.a1 st.x.n1 st.x.c1) := hcs 2 _ rfl
   have e3 : X.cell? ⟨pb, po + k * 16 + 3, none⟩ = some (.slice st.x.a2 st.x.n2 st.x.c2) := hcs 3 _ rfl
   have e4 : X.cell? ⟨pb, po + k * 16 + 4, none⟩ = some (.bool st.y.b) := hcs 4 _ rfl
   have e5 : X.cell? ⟨pb, po + k * 16 + 5, none⟩ = some (.slice st.y.a1 st.y.n1 st.y.c1) := hcs 5 _ rfl
   have e6 : X.cell? ⟨pb, po + k * 16 + 6, none⟩ = some (.slice st.y.a2 st.y.n2 st.y.c2) := hcs 6 _ rfl
   have e7 : X.cell? ⟨pb, po + k * 16 + 7, none⟩ = some (.bool st.xx.b) := hcs 7 _ rfl
   have e8 : X.cell? ⟨pb, po + k * 16 + 8, none⟩ = some (.slice st.xx.a1 st.xx.n1 st.xx.c1) := hcs 8 _ rfl
   have e9 : X.cell? ⟨pb, po + k * 16 + 9, none⟩ = some (.slice st.xx.a2 st.xx.n2 st.xx.c2) := hcs 9 _ rfl
   have e10 : X.cell? ⟨pb, po + k * 16 + 10, none⟩ = some (.bool st.yy.b) := hcs 10 _ rfl
   have e11 : X.cell? ⟨pb, po + k * 16 + 11, none⟩ = some (.slice st.yy.a1 st.yy.n1 st.yy.c1) := hcs 11 _ rfl
   have e12 : X.cell? ⟨pb, po + k * 16 + 12, none⟩ = some (.slice st.yy.a2 st.yy.n2 st.yy.c2) := hcs 12 _ rfl
   have e13 : X.cell? ⟨pb, po + k * 16 + 13, none⟩ = some (.bool st.xy.b) := hcs 13 _ rfl
   have e14 : X.cell? ⟨pb, po + k * 16 + 14, none⟩ = some (.slice st.xy.a1 st.xy.n1 st.xy.c1) := hcs 14 _ rfl
   have e15 : X.cell? ⟨pb, po + k * 16 + 15, none⟩ = some (.slice st.xy.a2 st.xy.n2 st.xy.c2) := hcs 15 _ rfl
   have hk0 : (0 : Int) ≤ (k : Int) := Int.natCast_nonneg _
   have hk1 : (k : Int) < (ss.length : Int) := by omega
   have hk3 : (k : Int).toNat = k := by omega
   clear hcs hgk
   obtain ⟨b, hb⟩ : ∃ b, p sn_ = b := ⟨_, rfl⟩
   have HB := Lib.hid hb
   clear hb
   go_wp2_with fail
   refine (HC.out sn_ b HB.out st X).mono ?_
   rintro e w1' ⟨rfl, hbz⟩
   replace HW := Lib.hid (ext_trans HW.out hbz)
   clear e0 e1 e2 e3 e4 e5 e6 e7 e8 e9 e10 e11 e12 e13 e14 e15
   clear hbz
   cases b
   ·have HN : Hid (ssAny p ss = ssAny p (ss.drop (k + 1))) := Lib.hid (by rw [HK.out, HST.out, HB.out]; rfl)
    go_wp2
    go_roundw
    case rel => exact ⟨k + 1, by omega, by go_num, HN, HW.out⟩
    case measure => simp [intOf]; omega
   ·have HN : Hid (ssAny p ss = true) := Lib.hid (by rw [HK.out, HST.out, HB.out]; rfl)
    go_wp2
    exact bodyPost_ret (v := .int .i64 (k : Int)) (by simp [results, Tryz.results54, go_sem]) rfl ⟨(k : Int), rfl, by rw [HN.out]; exact decide_eq_true (by omega), HW.out⟩
  ·have HN : Hid (ssAny p ss = false) := Lib.hid (by rw [HK.out, List.drop_of_length_le (show ss.length ≤ k by omega)]; rfl)
   go_wp2
   exact bodyPost_ret (v := .int .i64 (-1)) (by simp [results, Tryz.results54, go_sem]) rfl ⟨-1, rfl, by rw [HN.out]; rfl, HW.out⟩
set_option maxRecDepth 100000 in
set_option maxHeartbeats 16000000 in
theorem contains_at (fid : FuncId) (hE : ∀ args w, (callFunc fid args).run Tryz.prog w = .ok (.enter fid args) w) (p : Int → Bool) (hc : ∀ (n : Int) (b : Bool) (_ : p n = b) (t : Y5) (w : World), Calls Tryz.prog fid #[.agg (smA n t)] w (BPost w b)) (ss : List SN) (a : Option Addr) (c : Nat) (w : World) (hs : Sl w (.slice a ss.length c) ss.length (ss.flatMap snL)) : Calls Tryz.prog 25 #[.slice a ss.length c, .func (.func fid) #[] #[]] w (BPost w (ssAny p ss)) := by
 go_enter Tryz.func25, Tryz.ntmps25
 have HW : Hid (Below w.heap.size w w) := Lib.hid (Below.refl _ _)
 go_wp2_with fail
 refine (index_at fid hE p hc ss a c w hs).mono ?_
 rintro e w1' ⟨i, rfl, hi, hbz⟩
 replace HW := Lib.hid (ext_trans HW.out hbz)
 clear hbz
 go_wp2
 exact bodyPost_ret (v := .bool (ssAny p ss)) (by simp [results, Tryz.results25, go_sem, ← hi]) rfl ⟨rfl, HW.out⟩
set_option maxRecDepth 100000 in
set_option maxHeartbeats 16000000 in
theorem readAllM_at (l : List MV) (a : Option Addr) (c : Nat) (w : World) (hs : Sl w (.slice a l.length c) l.length (l.flatMap mnL)) (hok : ∀ m ∈ l, m.r.ok) : Calls Tryz.prog 20 #[.slice a l.length c] w (SsPost w l) := by
 have HS := Lib.hid hs
 have HGS := Lib.hid hok
 have HI := Lib.hid sums_info
 clear hs hok
 go_enter Tryz.func20, Tryz.ntmps20
 have HW : Hid (Below w.heap.size w w) := Lib.hid (Below.refl _ _)
 by_cases h0 : l.length = 0
 ·have HV : Hid (raF 1 l = 9) := Lib.hid (by unfold raF; rw [if_pos h0])
  have HNE : Hid ((9 : Int) ≠ 0) := Lib.hid (by decide)
  have hl0 : ((l.length : Int) == 0) = true := by simp [h0]
  rw [h0]
  clear h0 hl0
  go_wp2
  exact bodyPost_ret (v := .tuple #[.slice none 0 0, .int .i64 9]) (by simp [results, Tryz.results20, go_sem]) rfl ⟨none, 0, [], by rw [HV.out]; rfl, (fun h => absurd (HV.out.symm.trans h) HNE.out), HW.out⟩
 ·by_cases h1 : 20 < l.length
  ·have HV : Hid (raF 1 l = 2) := Lib.hid (by unfold raF; rw [if_neg h0, if_pos h1])
   have HNE : Hid ((2 : Int) ≠ 0) := Lib.hid (by decide)
   have hl0 : ¬ (l.length : Int) = 0 := by omega
   have hl1 : (20 : Int) < (l.length : Int) := by omega
   clear h0 h1
   go_wp2
   exact bodyPost_ret (v := .tuple #[.slice none 0 0, .int .i64 2]) (by simp [results, Tryz.results20, go_sem]) rfl ⟨none, 0, [], by rw [HV.out]; rfl, (fun h => absurd (HV.out.symm.trans h) HNE.out), HW.out⟩
  ·have HV0 : Hid (raF 1 l = if armsF l ≠ 0 then armsF l else if fewL 1 l = true then 9 else 0) := Lib.hid (by unfold raF; rw [if_neg h0, if_neg h1])
   have hl0 : ¬ (l.length : Int) = 0 := by omega
   have hl1 : ¬ (20 : Int) < (l.length : Int) := by omega
   have HLB := Lib.hid (And.intro h0 h1)
   clear h0 h1
   obtain ⟨base, HBASE⟩ : ∃ base, Hid (w.heap.size = base) := ⟨_, rfl⟩
   have HAL : Hid (AL w w base l (.slice none 0 0) 0 []) := ⟨Below.refl _ _, World.ownsRow_nil _ _ _ _, RowQ.nil _ _, rfl, fun i x r h => by simp at h, by rw [HBASE.out]; exact Nat.le_refl _, by rw [← HBASE.out]; exact Nat.le_refl _⟩
   have HW0 := HW
   clear HW
   go_wp2
   clear hl0 hl1
   go_loopw [4, 8, 19] (fun s _ i wr => ∃ (k : Nat) (ss : List SN), k ≤ l.length ∧ i = .int .i64 (k : Int) ∧ Hid (armsF l = armsF (l.drop k)) ∧ Hid (AL w wr base l s k ss)) (fun _ _ i _ => l.length - (intOf i).toNat)
   case atStart => exact ⟨0, [], by omega, rfl, rfl, HAL⟩
   case round =>
    clear HAL
    obtain ⟨k, ss, hk, rfl, HK, HAL⟩ := hrel
    generalize hX : wr = X at *
    clear hX
    have HW := Lib.hid (ext_trans HW0.out HAL.out.low)
    by_cases hlt : k < l.length
    ·have hgk := List.getElem?_eq_getElem hlt
     have HOK := Lib.hid (HGS.out _ (List.getElem_mem hlt))
     have HST := Lib.hid (armsF_step hlt)
     generalize l[k] = mv at *
     obtain ⟨n, r⟩ := mv
     obtain ⟨pb, po, hp9, hcs⟩ := (HS.out.ext HW.out).elem (f := mnL) (fun _ => rfl) (by omega : 0 < 11) hgk
     subst hp9
     have e0 : X.cell? ⟨pb, po + k * 11, none⟩ = some (.int .i64 (n)) := hcs 0 _ rfl
     have e1 : X.cell? ⟨pb, po + k * 11 + 1, none⟩ = some (.string r.x.n) := hcs 1 _ rfl
     have e2 : X.cell? ⟨pb, po + k * 11 + 2, none⟩ = some (.string r.x.d) := hcs 2 _ rfl
     have e3 : X.cell? ⟨pb, po + k * 11 + 3, none⟩ = some (.string r.y.n) := hcs 3 _ rfl
     have e4 : X.cell? ⟨pb, po + k * 11 + 4, none⟩ = some (.string r.y.d) := hcs 4 _ rfl
     have e5 : X.cell? ⟨pb, po + k * 11 + 5, none⟩ = some (.string r.xx.n) := hcs 5 _ rfl
     have e6 : X.cell? ⟨pb, po + k * 11 + 6, none⟩ = some (.string r.xx.d) := hcs 6 _ rfl
     have e7 : X.cell? ⟨pb, po + k * 11 + 7, none⟩ = some (.string r.yy.n) := hcs 7 _ rfl
     have e8 : X.cell? ⟨pb, po + k * 11 + 8, none⟩ = some (.string r.yy.d) := hcs 8 _ rfl
     have e9 : X.cell? ⟨pb, po + k * 11 + 9, none⟩ = some (.string r.xy.n) := hcs 9 _ rfl
     have e10 : X.cell? ⟨pb, po + k * 11 + 10, none⟩ = some (.string r.xy.d) := hcs 10 _ rfl
     have hk0 : (0 : Int) ≤ (k : Int) := Int.natCast_nonneg _
     have hk1 : (k : Int) < (l.length : Int) := by omega
     have hk3 : (k : Int).toNat = k := by omega
     have HGK := Lib.hid hgk
     clear hcs hgk
     go_upto_region 9 with (fail)
     refine wp_rows1 fun w1' hbz hR0 => ?_
     have le_m : w.heap.size ≤ X.heap.size := HW.out.size
     replace HAL := Lib.hid (HAL.out.ext hbz)
     replace HW := Lib.hid (ext_trans HW.out hbz)
     clear e0 e1 e2 e3 e4 e5 e6 e7 e8 e9 e10
     clear hbz
     have HR_m : Hid (RH w1' X.heap.size (mrA (n) r) 35) := Lib.hid hR0
     clear hR0
     generalize X.heap.size = b_m at *
     go_wp2_with (first | (refine wpList_load_row rfl _ _ rfl b_m rfl _ (mrA (n) r) _ _ HR_m.out Tryz.underlying35 rfl (mr_info _ _) ?_))
     refine (read_at n r HOK.out w1').mono ?_
     rintro e w2' ⟨k9, t9, rfl, hx9, hbz⟩
     replace HR_m := Lib.hid (HR_m.out.ext hbz)
     replace HAL := Lib.hid (HAL.out.ext hbz)
     replace HW := Lib.hid (ext_trans HW.out hbz)
     clear hbz
     have HRD : Hid (RdIf w2' (momF n r) n r k9 t9) := Lib.hid hx9
     clear hx9
     clear HR_m
     have hsz : (smA (k9) t9).size = 16 := rfl
     have hsc := run_storeCells_new (P := Tryz.prog) w2' 59 #[.int .i64 0, .bool false, .slice none 0 0, .slice none 0 0, .bool false, .slice none 0 0, .slice none 0 0, .bool false, .slice none 0 0, .slice none 0 0, .bool false, .slice none 0 0, .slice none 0 0, .bool false, .slice none 0 0, .slice none 0 0] (smA (k9) t9) (sm_info _ _) rfl (sm_all _ _)
     go_upto_region 10 with (fail)
     clear hsc hsz
     refine wp_rows1 fun w3' hbz hR0 => ?_
     have le_s : w.heap.size ≤ w2'.heap.size := HW.out.size
     replace HAL := Lib.hid (HAL.out.ext hbz)
     replace HRD := Lib.hid (HRD.out.ext hbz)
     replace HW := Lib.hid (ext_trans HW.out hbz)
     clear hbz
     have HR_s : Hid (RH w3' w2'.heap.size (smA (k9) t9) 59) := Lib.hid hR0
     clear hR0
     generalize w2'.heap.size = b_s at *
     have hlen20 : l.length ≤ 20 := by have := HLB.out; omega
     obtain ⟨f9, hf9⟩ : ∃ z, momF n r = z := ⟨_, rfl⟩
     rw [hf9] at HRD
     have HF9 := Lib.hid hf9
     simp only [hf9] at HST ⊢
     clear hf9
     by_cases hz : f9 = 0
     ·have hne : (f9 != 0) = false := by simp [hz]
      have HN : Hid (armsF l = armsF (l.drop (k + 1))) := Lib.hid (by rw [HK.out, HST.out, if_neg (fun h => h hz)])
      have HRX : Hid ((⟨k9, t9⟩ : SN).n = n ∧ SX w3' (⟨k9, t9⟩ : SN).t r.q) := Lib.hid (HRD.out hz)
      clear hz HST
      obtain ⟨c_s_0, c_s_1, c_s_2, c_s_3, c_s_4, c_s_5, c_s_6, c_s_7, c_s_8, c_s_9, c_s_10, c_s_11, c_s_12, c_s_13, c_s_14, c_s_15⟩ := zs16 HR_s.out
      have HAL2 := Lib.hid (HAL.out.ext (ext_alloc w3' (.cells #[.int .i64 (k9), .bool t9.x.b, .slice t9.x.a1 t9.x.n1 t9.x.c1, .slice t9.x.a2 t9.x.n2 t9.x.c2, .bool t9.y.b, .slice t9.y.a1 t9.y.n1 t9.y.c1, .slice t9.y.a2 t9.y.n2 t9.y.c2, .bool t9.xx.b, .slice t9.xx.a1 t9.xx.n1 t9.xx.c1, .slice t9.xx.a2 t9.xx.n2 t9.xx.c2, .bool t9.yy.b, .slice t9.yy.a1 t9.yy.n1 t9.yy.c1, .slice t9.yy.a2 t9.yy.n2 t9.yy.c2, .bool t9.xy.b, .slice t9.xy.a1 t9.xy.n1 t9.xy.c1, .slice t9.xy.a2 t9.xy.n2 t9.xy.c2] 59)))
      have HRX2 := Lib.hid (And.intro HRX.out.1 (HRX.out.2.ext (ext_alloc w3' (.cells #[.int .i64 (k9), .bool t9.x.b, .slice t9.x.a1 t9.x.n1 t9.x.c1, .slice t9.x.a2 t9.x.n2 t9.x.c2, .bool t9.y.b, .slice t9.y.a1 t9.y.n1 t9.y.c1, .slice t9.y.a2 t9.y.n2 t9.y.c2, .bool t9.xx.b, .slice t9.xx.a1 t9.xx.n1 t9.xx.c1, .slice t9.xx.a2 t9.xx.n2 t9.xx.c2, .bool t9.yy.b, .slice t9.yy.a1 t9.yy.n1 t9.yy.c1, .slice t9.yy.a2 t9.yy.n2 t9.yy.c2, .bool t9.xy.b, .slice t9.xy.a1 t9.xy.n1 t9.xy.c1, .slice t9.xy.a2 t9.xy.n2 t9.xy.c2] 59))))
      have hk2 : k + 1 ≤ 20 := by have := HLB.out; omega
      have HKK := Lib.hid hk2
      clear hk2
      go_wp2_with (at_builtin; refine wpList_append_q NW rfl _ _ 46 rfl base 59 Tryz.underlying46 HI.out rfl (by decide) rfl HAL2.out.own rfl (Sl.new w3' #[.int .i64 (k9), .bool t9.x.b, .slice t9.x.a1 t9.x.n1 t9.x.c1, .slice t9.x.a2 t9.x.n2 t9.x.c2, .bool t9.y.b, .slice t9.y.a1 t9.y.n1 t9.y.c1, .slice t9.y.a2 t9.y.n2 t9.y.c2, .bool t9.xx.b, .slice t9.xx.a1 t9.xx.n1 t9.xx.c1, .slice t9.xx.a2 t9.xx.n2 t9.xx.c2, .bool t9.yy.b, .slice t9.yy.a1 t9.yy.n1 t9.yy.c1, .slice t9.yy.a2 t9.yy.n2 t9.yy.c2, .bool t9.xy.b, .slice t9.xy.a1 t9.xy.n1 t9.xy.c1, .slice t9.xy.a2 t9.xy.n2 t9.xy.c2] _ 1 1 (by omega) (by decide)) rfl (by intro u hu; simp at hu; rcases hu with rfl | rfl | rfl | rfl | rfl | rfl | rfl | rfl | rfl | rfl | rfl | rfl | rfl | rfl | rfl | rfl <;> rfl) (by have := HKK.out; unfold maxLen; omega) (by have := HKK.out; omega) HAL2.out.bs HAL2.out.q (by intro u hu; simp [Value.cells] at hu; rcases hu with rfl | rfl | rfl | rfl | rfl | rfl | rfl | rfl | rfl | rfl | rfl | rfl | rfl | rfl | rfl <;> rfl) (by intro u hu; simp at hu; rcases hu with rfl | rfl | rfl | rfl | rfl | rfl | rfl | rfl | rfl | rfl | rfl | rfl | rfl | rfl | rfl | rfl <;> rfl) ?_; intro v7 w7 hown7 hg7 hat7 hq7; have HX7 := Lib.hid (HAL2.out.push ⟨k9, t9⟩ hg7 hown7 hq7 HGK.out HRX2.out); clear hown7 hg7 hat7 hq7)
      go_roundw
      case rel => exact ⟨k + 1, _, by omega, by go_num, HN, HX7⟩
      case measure => simp [intOf]; omega
     ·have hne : (f9 != 0) = true := by simp [hz]
      have HV : Hid (raF 1 l = f9) := Lib.hid (by
       have e : armsF l = f9 := by rw [HK.out, HST.out, if_pos hz]
       rw [HV0.out, e, if_pos hz])
      have HNE := Lib.hid hz
      clear hz
      go_wp2
      exact bodyPost_ret (v := .tuple #[.slice none 0 0, .int .i64 f9]) (by simp [results, Tryz.results20, go_sem]) rfl ⟨none, 0, [], by rw [HV.out]; rfl, (fun h => absurd (HV.out.symm.trans h) HNE.out), HW.out⟩
    ·obtain rfl : k = l.length := by omega
     have HV1 : Hid (armsF l = 0) := Lib.hid (by rw [HK.out, List.drop_of_length_le (Nat.le_refl _)]; rfl)
     have hp0 : 0 < l.length := by have := HLB.out; omega
     obtain ⟨g9, c9, rfl, _⟩ := own_fresh2 HAL.out.own hp0
     have HLX : Hid (ss.length = l.length) := Lib.hid HAL.out.len
     have HSS : Hid (SsOf X l ss (some ⟨g9, 0, none⟩) c9) := Lib.hid ⟨HLX.out, by rw [HLX.out]; exact Sl.ofOwn HAL.out.own, HAL.out.ok⟩
     have HFEW : Hid (ssAny (fun n => decide (n = 0)) ss = fewL 1 l) := Lib.hid (ssAny_few HSS.out (fun m hm => by
      have := (mom_parts (armsF_all HV1.out m hm)).1
      rw [Bool.eq_iff_iff, decide_eq_true_iff, decide_eq_true_iff]; omega))
     clear HAL
     have HL0 := Lib.hid hp0
     rw [← HLX.out]
     obtain ⟨bb, hbb⟩ : ∃ b, ssAny (fun n => decide (n = 0)) ss = b := ⟨_, rfl⟩
     have HBB := Lib.hid hbb
     clear hbb
     go_wp2_with fail
     refine (contains_at 50 (enters_of Tryz.func50 (by kernel_rfl) rfl) (fun n => decide (n = 0)) (fun n b hb t w => one_at n b hb t w) ss (some ⟨g9, 0, none⟩) c9 X HSS.out.sl).mono ?_
     rintro e w1' ⟨rfl, hbz⟩
     rw [HBB.out]
     replace HSS := Lib.hid (HSS.out.ext hbz)
     replace HW := Lib.hid (ext_trans HW.out hbz)
     clear hbz
     cases bb
     ·have HV : Hid (raF 1 l = 0) := Lib.hid (by rw [HV0.out, if_neg (fun h => h HV1.out), if_neg (by rw [← HFEW.out, HBB.out]; decide)])
      go_wp2
      exact bodyPost_ret (v := .tuple #[.slice (some ⟨g9, 0, none⟩) ss.length c9, .int .i64 0]) (by simp [results, Tryz.results20, go_sem]) rfl ⟨some ⟨g9, 0, none⟩, c9, ss, by rw [HV.out], (fun _ => HSS.out), HW.out⟩
     ·have HV : Hid (raF 1 l = 9) := Lib.hid (by rw [HV0.out, if_neg (fun h => h HV1.out), if_pos (by rw [← HFEW.out, HBB.out])])
      have HNE : Hid ((9 : Int) ≠ 0) := Lib.hid (by decide)
      go_wp2
      exact bodyPost_ret (v := .tuple #[.slice none 0 0, .int .i64 9]) (by simp [results, Tryz.results20, go_sem]) rfl ⟨none, 0, [], by rw [HV.out]; rfl, (fun h => absurd (HV.out.symm.trans h) HNE.out), HW.out⟩
end Nm
end Go.Proofs.YtlbnjgnbpiidaaaGreatDoor
