/- Plain: pairs whose first numbers are moved; rows of pairs, and slices.Clone at them. Printed by gen_lawshi.py. -/
import Derived.Test.YtilolnjbpokdnaaGreatDoorMomL
import Derived.Test.YtilolnjbpokdnaaGreatDoorAddL
import Derived.Test.YtilolnjbpokdnaaGreatDoorMomG
namespace Go.Proofs.YtilolnjbpokdnaaGreatDoor
open Go.RowKit
namespace Nm
def pxW (d : Int) (p : PX) : PX := ⟨IntKind.i64.wrap (p.x + d), p.y⟩
theorem moved_is {d : Int} (hd : -1000000 < d ∧ d < 1000000) : ∀ {l : List PX}, badX l = false → l.map (pxW d) = l.map (pxA d)
 | [], _ => rfl
 | p :: r, h => by
  have e : badX (p :: r) = if okP p then badX r else true := rfl
  by_cases ho : okP p = true
  ·rw [e, if_pos ho] at h
   have h1 := okP_iff.1 ho
   rw [List.map_cons, List.map_cons, moved_is hd h]
   unfold pxW pxA
   rw [IntWalk.i64_in _ (by omega)]
  ·rw [e, if_neg ho] at h; cases h
/-- an estimate's fault, of real sums -/
theorem at_sums {l : List PX} (h : sumF l = 0) : atF 2 (l.length : Int) (m5q (m5L m5z l)).r = if (l.length : Int) < 2 then 9 else 0 := by
 unfold atF
 rw [if_neg (fun e => e (mom_sums h))]
theorem qf_okS {q : Q5} (h : QF q) : q.r.ok := ⟨show_size h.x, show_size h.y, show_size h.xx, show_size h.yy, show_size h.xy⟩
theorem sumV5_anyS (l : List PX) : ∃ (n : Int) (r : R5), (sumV5 l).toArray = mrA n r ∧ (sumF l ≠ 0 → n = 0 ∧ r = r5z) := by
 by_cases h : sumF l = 0
 ·exact ⟨_, _, by unfold sumV5; rw [if_pos h]; exact moC_arr _ _, fun h2 => absurd h h2⟩
 ·exact ⟨_, _, by unfold sumV5; rw [if_neg h]; exact moZ_arr, fun _ => ⟨rfl, rfl⟩⟩
/-- what is said of both estimates -/
structure ShiOk (n : Int) (r1 r2 : R5) (L d : Int) : Prop where
 ok1 : r1.ok
 ok2 : r2.ok
 f1 : atF 2 n r1 = if L < 2 then 9 else 0
 f2 : atF 2 n r2 = if L < 2 then 9 else 0
 var : 2 ≤ L → veQ n r1.q = veQ n r2.q
 mean : 2 ≤ L → meQ n r2.q - meQ n r1.q = (d : Rat)
 fit : 2 ≤ L → Fits (meQ n r1.q) ∧ Fits (meQ n r2.q)
theorem shi_all (l : List PX) (d : Int) (hd : -1000000 < d ∧ d < 1000000) : ∃ (n1 : Int) (r1 : R5) (f1 : Int) (n2 : Int) (r2 : R5) (f2 : Int),
  ((sumV5 l).toArray = mrA n1 r1 ∧ sumF l = f1) ∧ ((sumV5 (l.map (pxW d))).toArray = mrA n2 r2 ∧ sumF (l.map (pxW d)) = f2) ∧
  (f1 ≠ 0 → f2 ≠ 0 → n1 = n2 ∧ r1 = r2) ∧ (f1 = 0 → f2 = 0 → n1 = n2 ∧ ShiOk n2 r1 r2 (l.length : Int) d) := by
 by_cases h : sumF l = 0 ∧ sumF (l.map (pxW d)) = 0
 ·obtain ⟨h1, h2⟩ := h
  have hv : ∀ {x : List PX}, sumF x = 0 → (sumV5 x).toArray = mrA (x.length : Int) (m5q (m5L m5z x)).r := fun {x} hx => by unfold sumV5; rw [if_pos hx]; exact moC_arr _ _
  refine ⟨_, _, _, _, _, _, ⟨hv h1, rfl⟩, ⟨hv h2, rfl⟩, fun e => absurd h1 e, fun _ _ => ⟨by rw [List.length_map], ?_⟩⟩
  have hm := moved_is hd (sumF_parts h1).2
  have a1 := at_sums h1
  have a2 := at_sums h2
  have s2 := sums_ln h2
  have s1 := sums_ln h1
  have l2 := (sumF_parts h1).1
  rw [List.length_map] at a2
  rw [hm] at a2 s2
  rw [hm, List.length_map]
  refine ⟨qf_okS s1.qf, qf_okS s2.qf, a1, a2, fun h2 => ?_, fun h2 => ?_, fun h2 => ?_⟩
  ·obtain ⟨e1, _⟩ := shift_var (l := l) d (by omega)
   unfold veQ vrQ
   rw [rq_back s1, rq_back s2, e1]
  ·obtain ⟨_, e2⟩ := shift_var (l := l) d (by omega)
   unfold meQ
   rw [rq_back s1, rq_back s2, e2]
   have hn := n_ne (n := (l.length : Int)) (by omega)
   generalize ((l.length : Int) : Rat) = n at *
   grind
  ·rw [rq_back s1, rq_back s2]
   have q1 : QL (m5q (m5L m5z l)) := ⟨s1.x.mono (by omega) (by omega), s1.y.mono (by omega) (by omega), s1.xx.mono (by omega) (by omega), s1.yy.mono (by omega) (by omega), s1.xy.mono (by omega) (by omega)⟩
   have q2 : QL (m5q (m5L m5z (l.map (pxA d)))) := ⟨s2.x.mono (by omega) (by omega), s2.y.mono (by omega) (by omega), s2.xx.mono (by omega) (by omega), s2.yy.mono (by omega) (by omega), s2.xy.mono (by omega) (by omega)⟩
   exact ⟨(q1.me (by omega) (by omega)).fits (by omega) (by omega), (q2.me (by omega) (by omega)).fits (by omega) (by omega)⟩
 ·obtain ⟨n1, r1, e1, z1⟩ := sumV5_anyS l
  obtain ⟨n2, r2, e2, z2⟩ := sumV5_anyS (l.map (pxW d))
  refine ⟨n1, r1, _, n2, r2, _, ⟨e1, rfl⟩, ⟨e2, rfl⟩, fun h1 h2 => ?_, fun h1 h2 => absurd ⟨h1, h2⟩ h⟩
  obtain ⟨a1, a2⟩ := z1 h1
  obtain ⟨b1, b2⟩ := z2 h2
  exact ⟨a1.trans b1.symm, a2.trans b2.symm⟩
/-! rows of pairs of the call's own -/
def OwnX (w : World) (b : Nat) (l : List PX) : Prop := ∃ cur rest, w.heap[b]? = some (.cells cur 53 (0, 0)) ∧ cur.toList = l.flatMap pxL ++ rest
theorem px_length (l : List PX) : (l.flatMap pxL).length = l.length * 2 := flat_length (f := pxL) (sz := 2) (fun _ => rfl) l
theorem px_get : ∀ {l : List PX} {k : Nat} (h : k < l.length), (l.flatMap pxL)[k * 2]? = some (.int .i64 l[k].x) ∧ (l.flatMap pxL)[k * 2 + 1]? = some (.int .i64 l[k].y)
 | [], k, h => by simp at h
 | p :: r, 0, _ => ⟨rfl, rfl⟩
 | p :: r, k + 1, h => by
  have ih := px_get (l := r) (k := k) (by simpa using h)
  rw [show (k + 1) * 2 = k * 2 + 1 + 1 by omega]
  exact ih
theorem px_set : ∀ {l : List PX} {k : Nat} (h : k < l.length) (z : Int), (l.flatMap pxL).set (k * 2) (.int .i64 z) = (l.set k ⟨z, l[k].y⟩).flatMap pxL
 | [], k, h, _ => by simp at h
 | p :: r, 0, _, z => rfl
 | p :: r, k + 1, h, z => by
  have hk : k < r.length := by simpa using h
  have ih := px_set (l := r) (k := k) hk z
  rw [show (k + 1) * 2 = k * 2 + 1 + 1 by omega]
  show Value.int .i64 p.x :: Value.int .i64 p.y :: (r.flatMap pxL).set (k * 2) (.int .i64 z) = Value.int .i64 p.x :: Value.int .i64 p.y :: (r.set k ⟨z, r[k].y⟩).flatMap pxL
  rw [ih]
theorem px_one (l : List PX) : ∀ u ∈ l.flatMap pxL, u.oneCell' = true := by
 intro u hu
 simp only [List.mem_flatMap] at hu
 obtain ⟨x, _, hx⟩ := hu
 simp only [pxL, List.mem_cons, List.not_mem_nil, or_false] at hx
 rcases hx with rfl | rfl <;> rfl
theorem OwnX.lt {w : World} {b : Nat} {l : List PX} (h : OwnX w b l) : b < w.heap.size := by
 obtain ⟨cur, rest, h, _⟩ := h
 rcases Nat.lt_or_ge b w.heap.size with hlt | hge
 ·exact hlt
 ·rw [Array.getElem?_eq_none hge] at h; cases h
theorem OwnX.at {w : World} {b : Nat} {l : List PX} (h : OwnX w b l) {i : Nat} {u : Value} (hu : (l.flatMap pxL)[i]? = some u) : w.cell? ⟨b, i, none⟩ = some u := by
 obtain ⟨cur, rest, h, hc⟩ := h
 have := cell_of_row w b i _ _ (0, 0) h
 have hi := (List.getElem?_eq_some_iff.1 hu).1
 rw [this, ← Array.getElem?_toList, hc, List.getElem?_append_left hi, hu]
theorem OwnX.frozen {w : World} {b : Nat} {l : List PX} (h : OwnX w b l) (i : Nat) : w.frozen? ⟨b, i, none⟩ = false := by
 obtain ⟨cur, rest, h, hc⟩ := h; simp [World.frozen?, h]
theorem OwnX.setx {w : World} {b : Nat} {l : List PX} (h : OwnX w b l) {k : Nat} (hk : k < l.length) (z : Int) : OwnX (w.setCell ⟨b, k * 2, none⟩ (.int .i64 z)) b (l.set k ⟨z, l[k].y⟩) := by
 obtain ⟨cur, rest, h, hc⟩ := h
 refine ⟨cur.setIfInBounds (k * 2) (.int .i64 z), rest, ?_, ?_⟩
 ·simp only [World.setCell, Array.getElem?_modify, h]; simp
 ·rw [Array.toList_setIfInBounds, hc, List.set_append_left _ _ (by rw [px_length]; omega), px_set hk]
theorem OwnX.ext {w w' : World} {b : Nat} {l : List PX} (h : OwnX w b l) (hb : Below w.heap.size w w') : OwnX w' b l := by
 obtain ⟨cur, rest, h2, hc⟩ := id h
 exact ⟨cur, rest, (hb.block b h.lt).trans h2, hc⟩
theorem OwnX.sl {w : World} {b : Nat} {l : List PX} (h : OwnX w b l) {c : Nat} (h1 : l.length ≤ c) (h2 : c ≤ maxLen) : Sl w (.slice (some ⟨b, 0, none⟩) l.length c) l.length (l.flatMap pxL) :=
 ⟨_, c, rfl, h1, h2, (fun h => by cases h), fun i x hx => ⟨b, 0, rfl, by rw [Nat.zero_add]; exact h.at hx⟩⟩
theorem OwnX.ofRow {w : World} {base n : Nat} {v : Value} {l : List PX} (h : w.ownsRow base 53 2 v n (l.flatMap pxL)) (hn : 0 < n) : ∃ g cap, v = .slice (some ⟨g, 0, none⟩) n cap ∧ base ≤ g ∧ n ≤ cap ∧ cap ≤ maxLen ∧ OwnX w g l := by
 obtain ⟨h1, ⟨_, h2⟩ | ⟨g, cap, cur, rfl, hb, hg, hn, hm, hs, ht⟩⟩ := h
 ·omega
 ·refine ⟨g, cap, rfl, hb, hn, hm, cur, cur.toList.drop (n * 2), hg, ?_⟩
  rw [← ht, List.take_append_drop]
theorem px_info : (Tryz.prog.info? 53).map (fun i => (i.zero, i.size, i.bytes)) = some (some (.agg #[.int .i64 0, .int .i64 0]), 2, 16) := by kernel_rfl
/-- what Clone leaves -/
def ClX (w : World) (l : List PX) (e : Ending) (w' : World) : Prop :=
 ∃ ga cap, e = .returned (.slice ga l.length cap) ∧ Sl w' (.slice ga l.length cap) l.length (l.flatMap pxL) ∧ (0 < l.length → ∃ g, ga = some ⟨g, 0, none⟩ ∧ w.heap.size ≤ g ∧ l.length ≤ cap ∧ cap ≤ maxLen ∧ OwnX w' g l) ∧ Below w.heap.size w w'
theorem cloneX_nil (w : World) : Calls Tryz.prog 24 #[.slice none 0 0] w fun e w' => e = .returned (.slice none 0 0) ∧ w = w' := by
 have hnil := fun wx => Lib.run_eql_slice_nil (P := Tryz.prog) wx 45 53 none 0 0 0 0 Tryz.underlying45
 go_enter Tryz.func24, Tryz.ntmps24
 go_wp2
 go_ret
 exact ⟨rfl, rfl⟩
set_option maxRecDepth 100000 in
set_option maxHeartbeats 4000000 in
theorem cloneX_at (l : List PX) (a : Option Addr) (c : Nat) (w : World) (hs : Sl w (.slice a l.length c) l.length (l.flatMap pxL)) (hb : l.length * 16 ≤ 140737488355328) :
  Calls Tryz.prog 24 #[.slice a l.length c] w (ClX w l) := by
 have hnil := fun wx => Lib.run_eql_slice_nil (P := Tryz.prog) wx 45 53 a l.length c 0 0 Tryz.underlying45
 have HB := Lib.hid px_info
 cases a with
 | none =>
  have h0 : l.length = 0 := by
   rcases Nat.eq_zero_or_pos l.length with h | h
   ·exact h
   ·obtain ⟨_, _, hv, _, _, _, h3⟩ := hs
    cases hv
    obtain ⟨_, _, e, _⟩ := h3 0 _ (px_get h).1
    cases e
  have hc0 : c = 0 := by obtain ⟨_, _, hv, _, _, h4, _⟩ := hs; cases hv; exact h4 rfl
  subst hc0
  have hl0 : l = [] := List.length_eq_zero_iff.1 h0
  subst hl0
  refine (cloneX_nil w).mono ?_
  rintro e w' ⟨rfl, rfl⟩
  exact ⟨none, 0, rfl, Sl.nil _, (fun h => by simp at h), Below.refl _ _⟩
 | some p =>
  go_enter Tryz.func24, Tryz.ntmps24
  have hown0 : (w.alloc (Obj.cells #[] 53)).ownsRow w.heap.size 53 2 (.slice (some ⟨w.heap.size, 0, none⟩) 0 0) 0 [] := ⟨rfl, .inr ⟨w.heap.size, 0, #[], rfl, Nat.le_refl _, heap_alloc_new w _, Nat.le_refl _, Nat.zero_le _, rfl, rfl⟩⟩
  have hs2 := hs.ext (w' := w.alloc (Obj.cells #[] 53)) (by go_grown)
  go_wp2_with (at_builtin; refine wpList_append_sl rfl _ _ 45 rfl w.heap.size 53 Tryz.underlying45 HB.out rfl (by decide) rfl hown0 rfl hs2 ?c1 (px_one _) ?c2 ?c3 ?c4 ?_; rotate_left 4; intro v2 w2 hown2 hg2 hv2)
  case c1 => rw [px_length]
  case c2 => unfold maxLen; omega
  case c3 => omega
  case c4 => simp
  have hb2 : Below w.heap.size w w2 := Below.grown (show Below w.heap.size w (w.alloc (Obj.cells #[] 53)) by go_grown) hg2 (by simp) (fun k e => by cases e; exact Nat.le_refl _)
  rw [List.nil_append, Nat.zero_add] at hown2
  obtain ⟨ga, cap, rfl⟩ : ∃ ga cap, v2 = .slice ga l.length cap := by
   obtain ⟨h1, ⟨rfl, h2⟩ | ⟨g, cap, cur, rfl, _⟩⟩ := hown2
   ·exact ⟨none, 0, by rw [h2]⟩
   ·exact ⟨_, cap, rfl⟩
  have hsl := Sl.ofOwn hown2
  have HOW : Hid (0 < l.length → ∃ g, ga = some ⟨g, 0, none⟩ ∧ w.heap.size ≤ g ∧ l.length ≤ cap ∧ cap ≤ maxLen ∧ OwnX w2 g l) := Lib.hid (fun h => by
   obtain ⟨g, cap', e, h1, h2, h3, h4⟩ := OwnX.ofRow hown2 h
   cases e
   exact ⟨g, rfl, h1, h2, h3, h4⟩)
  clear hown0 hs2 hown2 hg2 hv2
  go_wp2
  go_ret
  exact ⟨ga, cap, rfl, hsl, HOW.out, hb2⟩
/-- the first k are moved -/
def mvL (d : Int) (k : Nat) (l : List PX) : List PX := (l.take k).map (pxW d) ++ l.drop k
theorem mvL_length {d : Int} {k : Nat} {l : List PX} (h : k ≤ l.length) : (mvL d k l).length = l.length := by unfold mvL; simp; omega
theorem mvL_at {d : Int} {k : Nat} {l : List PX} (h : k < l.length) (h' : k < (mvL d k l).length) : (mvL d k l)[k] = l[k] := by
 have e : (mvL d k l)[k]? = l[k]? := by
  unfold mvL
  rw [List.getElem?_append_right (by rw [List.length_map, List.length_take]; exact Nat.min_le_left _ _)]
  simp [Nat.min_eq_left (Nat.le_of_lt h)]
 rw [List.getElem?_eq_getElem h, List.getElem?_eq_getElem h'] at e
 injection e
theorem mvL_set {d : Int} {k : Nat} {l : List PX} (h : k < l.length) : (mvL d k l).set k (pxW d l[k]) = mvL d (k + 1) l := by
 unfold mvL
 have hl : ((l.take k).map (pxW d)).length = k := by simp; omega
 rw [List.set_append_right _ _ (by omega), hl, Nat.sub_self, List.drop_eq_getElem_cons h, List.set_cons_zero, List.take_succ_eq_append_getElem h, List.map_append, List.append_assoc]
 rfl
theorem mvL_zero (d : Int) (l : List PX) : mvL d 0 l = l := by unfold mvL; simp
theorem mvL_end {d : Int} {k : Nat} {l : List PX} (h : l.length ≤ k) : mvL d k l = l.map (pxW d) := by
 unfold mvL
 rw [List.take_of_length_le h, List.drop_of_length_le h, List.append_nil]
theorem tmod_mil (z : Int) : -1000000 < z.tmod 1000000 ∧ z.tmod 1000000 < 1000000 := by
 by_cases h : 0 ≤ z
 ·rw [Int.tmod_eq_emod_of_nonneg h]
  have h1 := Int.emod_nonneg z (show (1000000 : Int) ≠ 0 by omega)
  have h2 := Int.emod_lt_of_pos z (show (0 : Int) < 1000000 by omega)
  omega
 ·have e := Int.tmod_eq_emod_of_nonneg (a := -z) (b := 1000000) (by omega)
  rw [Int.neg_tmod] at e
  have h1 := Int.emod_nonneg (-z) (show (1000000 : Int) ≠ 0 by omega)
  have h2 := Int.emod_lt_of_pos (-z) (show (0 : Int) < 1000000 by omega)
  omega
end Nm
end Go.Proofs.YtilolnjbpokdnaaGreatDoor
