/- checkExposed, Exposed of package event. Printed by gen_vis.py. Visits of package event. Printed by gen_visa.py. Plain: what the law on tallies wants; cells of tables and visits. Printed by gen_lawtau.py. -/
import Derived.Test.YtacchooggifnhaaTv05
import Derived.Test.YtacchooggifnhaaProg
import Derived.Test.YtacchooggifnhaaTv00
import Derived.Test.YtacchooggifnhaaTv01
import Derived.Test.YtacchooggifnhaaTv02
import Derived.Test.YtacchooggifnhaaTv03
import Derived.Test.YtacchooggifnhaaShelf
import Derived.Test.YtacchooggifnhaaTv04
import Derived.Test.YtacchooggifnhaaTv08
import Derived.Test.YtacchooggifnhaaTv07
import Derived.Test.YtacchooggifnhaaTv06
import Derived.Test.YtacchooggifnhaaTv10
import Derived.Test.YtacchooggifnhaaTv09
namespace Go.Proofs.Ytacchooggifnhaa
open Go.RowKit
namespace Ex
/-- what Exposed leaves -/
def ExdPost (x : ByteArray) (l : List Ev) (w : World) (e : Ending) (w' : World) : Prop := ∃ (o : List Sbj) (ks : List ByteArray) (a b : Option Addr) (c d : Nat), e = .returned (.tuple #[.slice a o.length c, .slice b ks.length d, .int .i64 (expF l x)]) ∧ Sl w' (.slice a o.length c) o.length (o.flatMap sbL) ∧ Sl w' (.slice b ks.length d) ks.length (ks.map Value.string) ∧ (if expF l x = 0 then ExpR (expX x l).1 (expX x l).2 o ks else o = [] ∧ ks = []) ∧ (o.length ≤ 20000 ∧ ks.length ≤ 20000) ∧ Below w.heap.size w w'
set_option maxRecDepth 100000 in
set_option maxHeartbeats 16000000 in
theorem Exposed_at (l : List Ev) (hok : ∀ e ∈ l, e.ok) (x : ByteArray) (hx : x.size ≤ maxLen) (a : Option Addr) (c : Nat) (w : World) (hs : Sl w (.slice a l.length c) l.length (l.flatMap evL)) :
    Calls Try.prog 7 #[.slice a l.length c, .string x] w (ExdPost x l w) := by
  have HOK := Lib.hid hok
  have HS := Lib.hid hs
  have HX := Lib.hid hx
  clear hok hs hx
  go_enter Try.func7, Try.ntmps7
  go_wp2_with fail
  refine (checkExposed_at l HOK.out x HX.out a c w HS.out).mono ?_
  rintro e w1 ⟨rfl, hb1⟩
  obtain ⟨f, hf⟩ : ∃ z, expF l x = z := ⟨_, rfl⟩
  have HF := Lib.hid hf
  rw [hf]
  clear hf
  by_cases h0 : f = 0
  · subst h0
    go_wp2_with fail
    refine (exposed_at l x a c w1 (checkL_len (expF_ok HF.out)) (HS.out.ext hb1)).mono ?_
    rintro e w2 ⟨o, ks, p, q, cp, cq, rfl, ho1, ho2, hR, hll, hb2⟩
    have hs1 := Sl.ofOwn ho1
    have hs2 := Sl.ofOwn ho2
    have HLL := Lib.hid hll
    clear ho1 ho2 hll
    have HR := Lib.hid hR
    have HS1 := Lib.hid hs1
    have HS2 := Lib.hid hs2
    have hb3 := ext_trans hb1 hb2
    clear hs1 hs2 hR hb1 hb2
    go_wp2
    exact bodyPost_ret (v := .tuple #[.slice p o.length cp, .slice q ks.length cq, .int .i64 0]) (by simp [results, Try.results7, go_sem]) rfl ⟨o, ks, p, q, cp, cq, by rw [HF.out], HS1.out, HS2.out, by rw [if_pos HF.out]; exact HR.out, HLL.out, hb3⟩
  · have hne : (f != 0) = true := by simpa using h0
    have H0 := Lib.hid h0
    clear h0
    go_wp2
    exact bodyPost_ret (v := .tuple #[.slice none 0 0, .slice none 0 0, .int .i64 f]) (by simp [results, Try.results7, go_sem]) rfl ⟨[], [], none, none, 0, 0, by rw [HF.out]; rfl, Sl.nil _, Sl.nil _, by rw [if_neg (by rw [HF.out]; exact H0.out)]; exact ⟨rfl, rfl⟩, ⟨Nat.zero_le _, Nat.zero_le _⟩, hb1⟩
end Ex
end Go.Proofs.Ytacchooggifnhaa
namespace Go.Proofs.Ytacchooggifnhaa
open Go.RowKit
namespace Ex
theorem visX_len {gap : Int} {ts : List Int} (h : ts.Pairwise (· ≤ ·)) : (visX gap ts).length ≤ ts.length := by
  have ok := visOk (gap := gap) h
  have key : ∀ (l : List Vis), (∀ u ∈ l, 1 ≤ u.n) → (l.length : Int) ≤ (l.map (·.n)).sum := by
    intro l
    induction l with
    | nil => intro _; simp
    | cons a l ih =>
      intro h1
      have e1 := ih (fun u hu => h1 u (List.mem_cons_of_mem _ hu))
      have e3 := h1 a List.mem_cons_self
      simp only [List.map_cons, List.sum_cons, List.length_cons]; omega
  have := key _ (fun u hu => (ok.each u hu).2)
  rw [ok.sum] at this
  omega
end Ex
end Go.Proofs.Ytacchooggifnhaa
namespace Go.Proofs.Ytacchooggifnhaa
open Go.RowKit
namespace Ex
theorem vi_cells {w : World} {a : Option Addr} {n c k : Nat} {l : List Vis} {e : Vis} (s : Sl w (.slice a n c) n (l.flatMap viL)) (h : l[k]? = some e) :
    ∃ b o, a = some ⟨b, o, none⟩ ∧ w.cell? ⟨b, o + k * 3, none⟩ = some (.int .i64 e.fr) ∧ w.cell? ⟨b, o + k * 3 + 1, none⟩ = some (.int .i64 e.to) ∧ w.cell? ⟨b, o + k * 3 + 2, none⟩ = some (.int .i64 e.n) := by
  obtain ⟨b, o, ha, hc⟩ := s.elem viL_len (by omega) h
  exact ⟨b, o, ha, hc 0 _ rfl, hc 1 _ rfl, hc 2 _ rfl⟩
theorem int_cell {w : World} {b n c k : Nat} {l : List Int} {z : Int} (s : Sl w (.slice (some ⟨b, 0, none⟩) n c) n (l.map (Value.int .i64))) (h : l[k]? = some z) : w.cell? ⟨b, k, none⟩ = some (.int .i64 z) := by
  obtain ⟨a', cap, hv, _, _, _, h3⟩ := s
  cases hv
  obtain ⟨b', o', he, hc⟩ := h3 k (.int .i64 z) (by rw [List.getElem?_map, h]; rfl)
  cases he
  rw [Nat.zero_add] at hc; exact hc
/-- what a table is, whatever its subjects -/
structure RowsOk (rows : List (Int × List Int)) : Prop where
  len : rows.length ≤ 20000
  wide : ∀ r ∈ rows, r.2.length ≤ 20
  each : ∀ r ∈ rows, ∀ z ∈ r.2, 0 ≤ z ∧ z ≤ 20000
theorem sum_bound {l : List Int} (h : ∀ z ∈ l, 0 ≤ z ∧ z ≤ 20000) : 0 ≤ l.sum ∧ l.sum ≤ 20000 * (l.length : Int) := by
  induction l with
  | nil => simp
  | cons a l ih =>
    have h1 := ih (fun z hz => h z (List.mem_cons_of_mem _ hz))
    have h2 := h a List.mem_cons_self
    simp only [List.sum_cons, List.length_cons]; omega
theorem rowsOk_of {K : List Sbj} {day : Int} {ar : Nat} {rows : List (Int × List Int)} (h : TalR K day ar 0 rows) (hk : K.length ≤ 20000) (ha : ar ≤ 20) : RowsOk rows := by
  rcases h with ⟨h1, h2, h3⟩ | ⟨h1, lo, hi, h2, ⟨h3, h4, _⟩ | ⟨h3, h4, h5⟩⟩
  · subst h3; exact ⟨Nat.zero_le _, (fun r hr => by cases hr), (fun r hr => by cases hr)⟩
  · cases h4
  · subst h5
    refine ⟨by rw [talX_len]; exact h3, fun r hr => ?_, fun r hr z hz => ?_⟩
    · obtain ⟨i, hi, rfl⟩ := List.getElem_of_mem hr
      rw [(talX_row (List.getElem?_eq_getElem hi)).1]; exact ha
    · simp only [talX, List.mem_map, List.mem_range] at hr
      obtain ⟨i, _, rfl⟩ := hr
      simp only [rowT, List.mem_map, List.mem_range] at hz
      obtain ⟨j, _, rfl⟩ := hz
      have := List.countP_le_length (p := cntB day ((lo : Int) + (i : Int)) (j : Int)) (l := K)
      omega
/-- what the law asks of the table -/
theorem talIs_zero {x : ByteArray} {l : List Ev} {arms day : Int} {rows : List (Int × List Int)} (h : TalIs x l arms day 0 rows) :
    expF l x = 0 ∧ ∀ (o : List Sbj) (ks : List ByteArray), ExpR (expX x l).1 (expX x l).2 o ks → o.length ≤ 20000 → RowsOk rows ∧ (rows.map (fun r => r.2.sum)).sum = ((o.countP (keepB arms) : Nat) : Int) := by
  unfold TalIs at h
  by_cases h1 : expF l x ≠ 0
  · rw [if_pos h1] at h
    exact absurd h.1.symm h1
  · rw [if_neg h1] at h
    have h1' : expF l x = 0 := by simpa using h1
    refine ⟨h1', fun o ks hR hlo => ?_⟩
    by_cases h2 : withinB arms 1 20 = false ∨ withinB day 1 100000000 = false
    · rw [if_pos h2] at h; cases h.1
    · rw [if_neg h2] at h
      obtain ⟨o', ks', hR', hT⟩ := h
      obtain ⟨rfl, _⟩ := hR.unique hR'
      have h3 : withinB arms 1 20 = true := by
        cases e : withinB arms 1 20
        · exact absurd (.inl e) h2
        · rfl
      have harm : 1 ≤ arms ∧ arms ≤ 20 := of_decide_eq_true h3
      have hK : (o.filter (keepB arms)).length ≤ 20000 := Nat.le_trans (List.length_filter_le _ _) hlo
      refine ⟨rowsOk_of hT hK (by omega), ?_⟩
      rw [hT.sum (fun s hs => ?_), List.countP_eq_length_filter]
      obtain ⟨h4, h5⟩ := List.mem_filter.1 hs
      have h6 : s.arm < arms := of_decide_eq_true h5
      exact ⟨arms_from (expF_ok h1') hR s h4, by omega⟩
/-- the sum of the first rows -/
def sumR (rows : List (Int × List Int)) (k : Nat) : Int := ((rows.take k).map (fun r => r.2.sum)).sum
theorem sumR_succ {rows : List (Int × List Int)} {k : Nat} {r : Int × List Int} (h : rows[k]? = some r) : sumR rows (k + 1) = sumR rows k + r.2.sum := by
  obtain ⟨hk, rfl⟩ := List.getElem?_eq_some_iff.1 h
  unfold sumR
  rw [List.take_succ_eq_append_getElem hk, List.map_append, List.sum_append]; simp
theorem sum_take {l : List Int} {k : Nat} {z : Int} (h : l[k]? = some z) : (l.take (k + 1)).sum = (l.take k).sum + z := by
  obtain ⟨hk, rfl⟩ := List.getElem?_eq_some_iff.1 h
  rw [List.take_succ_eq_append_getElem hk, List.sum_append]; simp
theorem sumR_bound {rows : List (Int × List Int)} (h : RowsOk rows) : ∀ k, k ≤ rows.length → 0 ≤ sumR rows k ∧ sumR rows k ≤ 400000 * (k : Int)
  | 0, _ => by simp [sumR]
  | k + 1, hk => by
    have ih := sumR_bound h k (by omega)
    have hg := List.getElem?_eq_getElem (show k < rows.length by omega)
    rw [sumR_succ hg]
    have h1 := sum_bound (h.each rows[k] (List.getElem_mem _))
    have h2 := h.wide rows[k] (List.getElem_mem _)
    omega
/-- the events of the first visits -/
def sumV (V : List Vis) (k : Nat) : Int := ((V.take k).map (·.n)).sum
theorem sumV_succ {V : List Vis} {k : Nat} {v : Vis} (h : V[k]? = some v) : sumV V (k + 1) = sumV V k + v.n := by
  obtain ⟨hk, rfl⟩ := List.getElem?_eq_some_iff.1 h
  unfold sumV
  rw [List.take_succ_eq_append_getElem hk, List.map_append, List.sum_append]; simp
theorem sumV_bound {V : List Vis} (h : ∀ v ∈ V, 0 ≤ v.n ∧ v.n ≤ 20000) : ∀ k, k ≤ V.length → 0 ≤ sumV V k ∧ sumV V k ≤ 20000 * (k : Int)
  | 0, _ => by simp [sumV]
  | k + 1, hk => by
    have ih := sumV_bound h k (by omega)
    have hg := List.getElem?_eq_getElem (show k < V.length by omega)
    rw [sumV_succ hg]
    have h1 := h V[k] (List.getElem_mem _)
    omega
theorem cnt_take {o : List Sbj} {arms : Int} {k : Nat} {s : Sbj} (h : o[k]? = some s) : (o.take (k + 1)).countP (keepB arms) = (o.take k).countP (keepB arms) + if keepB arms s = true then 1 else 0 := by
  obtain ⟨hk, rfl⟩ := List.getElem?_eq_some_iff.1 h
  rw [List.take_succ_eq_append_getElem hk, List.countP_append]
  by_cases hc : keepB arms o[k] = true <;> simp [hc]
theorem vis_mem (gap : Int) (S : List Int) : ∀ (ts : List Int) (acc : List Vis), (∀ v ∈ acc, v.fr ∈ S ∧ v.to ∈ S) → (∀ t ∈ ts, t ∈ S) → ∀ v ∈ ts.foldl (stepV gap) acc, v.fr ∈ S ∧ v.to ∈ S
  | [], acc, h, _, v, hv => h v hv
  | t :: ts, acc, h, ht, v, hv => by
    refine vis_mem gap S ts (stepV gap acc t) (fun u hu => ?_) (fun q hq => ht q (List.mem_cons_of_mem _ hq)) v hv
    have ht0 := ht t List.mem_cons_self
    unfold stepV at hu
    cases hl : acc.getLast? with
    | none =>
      rw [hl] at hu
      obtain rfl := List.mem_singleton.1 hu
      exact ⟨ht0, ht0⟩
    | some z =>
      rw [hl] at hu
      simp only at hu
      split at hu
      · rcases List.mem_append.1 hu with hu | hu
        · exact h u ((List.dropLast_sublist _).subset hu)
        · obtain rfl := List.mem_singleton.1 hu
          exact ⟨(h z (List.mem_of_getLast? hl)).1, ht0⟩
      · rcases List.mem_append.1 hu with hu | hu
        · exact h u hu
        · obtain rfl := List.mem_singleton.1 hu
          exact ⟨ht0, ht0⟩
theorem visF_ok {l : List Ev} {key : ByteArray} {gap : Int} (h : visF l key gap = 0) : checkL l = 0 ∧ 0 ≤ gap ∧ gap ≤ 100000000 := by
  unfold visF at h
  by_cases h1 : checkL l = 0
  · rw [if_neg (by simp [h1])] at h
    by_cases h2 : keyB key.data.toList = false
    · rw [if_pos h2] at h; cases h
    · rw [if_neg h2] at h
      by_cases h3 : withinB gap 0 100000000 = false
      · rw [if_pos h3] at h; cases h
      · have : withinB gap 0 100000000 = true := by simpa using h3
        unfold withinB at this
        exact ⟨h1, of_decide_eq_true this⟩
  · rw [if_pos h1] at h; exact absurd h h1
/-- what is true of the visits of a key -/
structure VisFacts (l : List Ev) (key : ByteArray) (gap : Int) (V : List Vis) : Prop where
  len : V.length ≤ 20000
  each : ∀ v ∈ V, v.fr ≤ v.to ∧ 1 ≤ v.n ∧ v.n ≤ 20000 ∧ (0 ≤ v.fr ∧ v.fr ≤ 4000000000) ∧ 0 ≤ v.to ∧ v.to ≤ 4000000000
  gaps : ∀ j a b, V[j]? = some a → V[j + 1]? = some b → gap < b.fr - a.to
  sum : sumV V V.length = ((timesX key l).length : Int)
  times : (timesX key l).length ≤ 20000
theorem visFacts {l : List Ev} {key : ByteArray} {gap : Int} (h : visF l key gap = 0) : VisFacts l key gap (visV l key gap) := by
  obtain ⟨hc, _⟩ := visF_ok h
  obtain ⟨h20, hb⟩ := times_ok (key := key) hc
  have hsrt := sortZ_srt (timesX key l)
  have ok := visOk (gap := gap) hsrt
  have hV : visV l key gap = visX gap (sortZ (timesX key l)) := by unfold visV; rw [if_pos h]
  rw [hV]
  have hm := vis_mem gap (sortZ (timesX key l)) (sortZ (timesX key l)) [] (fun v hv => by cases hv) (fun t ht => ht)
  have hzl := sortZ_len (timesX key l)
  have hbz : ∀ t ∈ sortZ (timesX key l), 0 ≤ t ∧ t ≤ 4000000000 := fun t ht => hb t ((sortZ_perm _).mem_iff.1 ht)
  refine ⟨Nat.le_trans (visX_len hsrt) (by omega), fun v hv => ?_, ok.gaps, ?_, h20⟩
  · obtain ⟨m1, m2⟩ := hm v hv
    have h1 := ok.each v hv
    have h2 := visN_le hsrt v hv
    exact ⟨h1.1, h1.2, by omega, hbz _ m1, hbz _ m2⟩
  · unfold sumV
    rw [List.take_length, ok.sum, hzl]
theorem visV_nil {l : List Ev} {key : ByteArray} {gap : Int} (h : visF l key gap ≠ 0) : visV l key gap = [] := by unfold visV; rw [if_neg h]
end Ex
end Go.Proofs.Ytacchooggifnhaa
