/- CheckLog of package event, and the reference's. The reference's CheckLog. Missing of package event, and the reference's. Broken of package event, and the reference's. checkShards of package event, and the reference's. -/
import Derived.Test.YtacchooggifnhaaTw01
namespace Go.Proofs.Ytacchooggifnhaa
open Go.RowKit
/-- the first fault of events, behind another one -/
def scanFrom : Option Ev → List Ev → Int
  | _, [] => 0
  | p, e :: r => if checkE e ≠ 0 then checkE e else if (match p with | none => false | some q => decide (0 ≤ ordE q e)) = true then 8 else scanFrom (some e) r
def checkL (l : List Ev) : Int := if 20000 < l.length then 2 else if scanFrom none l ≠ 0 then scanFrom none l else if 50 < (shardsOf l).length then 2 else 0
theorem scan_step (p : Option Ev) {l : List Ev} {k : Nat} {s : Ev} (h : l[k]? = some s) : scanFrom p (l.drop k) = if checkE s ≠ 0 then checkE s else if (match p with | none => false | some q => decide (0 ≤ ordE q s)) = true then 8 else scanFrom (some s) (l.drop (k + 1)) := by
  obtain ⟨hk, rfl⟩ := List.getElem?_eq_some_iff.1 h
  rw [List.drop_eq_getElem_cons hk]; rfl
def prevE (l : List Ev) : Nat → Option Ev
  | 0 => none
  | k + 1 => l[k]?
/-- eight cells of an event -/
abbrev C8 (w' : World) (b o : Nat) (e : Ev) : Prop :=
  w'.cell? ⟨b, o, none⟩ = some (.string e.shard) ∧ w'.cell? ⟨b, o + 1, none⟩ = some (.int .i64 e.number) ∧ w'.cell? ⟨b, o + 2, none⟩ = some (.int .i64 e.kind) ∧ w'.cell? ⟨b, o + 3, none⟩ = some (.int .i64 e.time) ∧
    w'.cell? ⟨b, o + 4, none⟩ = some (.string e.key) ∧ w'.cell? ⟨b, o + 5, none⟩ = some (.string e.name) ∧ w'.cell? ⟨b, o + 6, none⟩ = some (.int .i64 e.arm) ∧ w'.cell? ⟨b, o + 7, none⟩ = some (.int .i64 e.n)
theorem C8.ext {w w' : World} {b o : Nat} {e : Ev} (hb : Below w.heap.size w w') (h : C8 w b o e) : C8 w' b o e :=
  ⟨cell_later hb h.1, cell_later hb h.2.1, cell_later hb h.2.2.1, cell_later hb h.2.2.2.1, cell_later hb h.2.2.2.2.1, cell_later hb h.2.2.2.2.2.1, cell_later hb h.2.2.2.2.2.2.1, cell_later hb h.2.2.2.2.2.2.2⟩
abbrev SE (W : World) (b1 : Nat) (A1 : Array Value) (b o : Nat) (e : Ev) (w' : World) : Prop :=
  Below W.heap.size W w' ∧ (∀ j, w'.cell? ⟨b1, j, none⟩ = A1[j]?) ∧ C8 w' b o e
theorem SE.start {W : World} {b1 : Nat} {A1 : Array Value} {b o : Nat} {e : Ev} (h1 : Box W b1 A1) (h2 : C8 W b o e) : SE W b1 A1 b o e W.drew := ⟨(Below.refl _ _).drew, h1.2, h2⟩
theorem SE.ext {W w1 w2 : World} {b1 : Nat} {A1 : Array Value} {b o : Nat} {e : Ev} (hb : Below w1.heap.size w1 w2) (h : SE W b1 A1 b o e w1) (h1 : Box W b1 A1) : SE W b1 A1 b o e w2 :=
  ⟨ext_trans h.1 hb, fun j => (hb.cell (p := ⟨b1, j, none⟩) (Nat.lt_of_lt_of_le h1.1 h.1.size)).trans (h.2.1 j), C8.ext hb h.2.2⟩

set_option maxHeartbeats 4000000 in
theorem event_CheckLog (l : List Ev) (hok : ∀ e ∈ l, e.ok) (a : Option Addr) (c : Nat) (w : World) (hs : Sl w (.slice a l.length c) l.length (l.flatMap evL)) :
    Calls Try.prog 30 #[.slice a l.length c] w fun e w' => e = .returned (.int .i64 (checkL l)) ∧ Below w.heap.size w w' := by
  have HOK := Lib.hid hok
  clear hok
  by_cases hl : 20000 < l.length
  · have hc : checkL l = 2 := by unfold checkL; rw [if_pos hl]
    rw [hc]
    clear hc
    go_enter Try.func30, Try.ntmps30
    go_wp2
    go_ret
    exact ⟨rfl, Below.refl _ _⟩
  have HC : Hid (checkL l = if scanFrom none l ≠ 0 then scanFrom none l else if 50 < (shardsOf l).length then 2 else 0) := by
    have : checkL l = if scanFrom none l ≠ 0 then scanFrom none l else if 50 < (shardsOf l).length then 2 else 0 := by unfold checkL; rw [if_neg hl]
    exact this
  go_enter Try.func30, Try.ntmps30
  go_wp2
  go_loopw [11] (fun i wr => ∃ k : Nat, k ≤ l.length ∧ i = .int .i64 k ∧ Hid (scanFrom none l = scanFrom (prevE l k) (l.drop k)) ∧ Below w.heap.size w wr) (fun i _ => l.length - (intOf i).toNat)
  case atStart => exact ⟨0, by omega, rfl, rfl, Below.refl _ _⟩
  case round =>
    obtain ⟨k, hk, rfl, HK, hb⟩ := hrel
    by_cases hlt : k < l.length
    · have hgk := List.getElem?_eq_getElem hlt
      have hsok : (l[k]).ok := HOK.out _ (List.getElem_mem _)
      generalize l[k] = s at hgk hsok
      obtain ⟨b, o, rfl, e0, e1, e2, e3, e4, e5, e6, e7⟩ := ev_cells (hs.ext hb) hgk
      have HST := Lib.hid (scan_step (prevE l k) hgk)
      have HP : Hid (prevE l (k + 1) = some s) := hgk
      clear hgk
      go_upto_region 6 with (fail)
      clear e0 e1 e2 e3 e4 e5 e6 e7
      refine wp_box1 fun X hszX hbX hX => ?_
      obtain ⟨_, hX2⟩ := id hX
      clear hszX
      go_wp2_with fail
      refine (event_Check s hsok _).mono ?_
      rintro e w2 ⟨rfl, hb2⟩
      have hbx := ext_trans (ext_trans hb hbX) hb2
      have hX3 := hX.ext hb2
      clear hX hX2 hbX hb2
      by_cases hc : checkE s = 0
      · have hne : (checkE s != 0) = false := by simp [hc]
        have HS2 : Hid (scanFrom none l = if (match prevE l k with | none => false | some q => decide (0 ≤ ordE q s)) = true then 8 else scanFrom (some s) (l.drop (k + 1))) := by
          have := HK.out; rw [HST.out, if_neg (by simp [hc])] at this; exact this
        clear hc
        by_cases h0 : k = 0
        · subst h0
          have HS3 : Hid (scanFrom none l = scanFrom (prevE l (0 + 1)) (l.drop (0 + 1))) := by have := HS2.out; simp only [prevE] at this; rw [HP.out]; exact (by simpa using this : scanFrom none l = scanFrom (some s) (l.drop (0 + 1)))
          go_wp2_with fail
          go_quiet (fail)
          go_wp2
          exact ⟨⟨0 + 1, by omega, rfl, HS3, below_drewN hbx _⟩, by simp [intOf]; omega⟩
        · obtain ⟨j, rfl⟩ : ∃ j, k = j + 1 := ⟨k - 1, by omega⟩
          have hgj := List.getElem?_eq_getElem (show j < l.length by omega)
          have HS3 : Hid (scanFrom none l = if decide (0 ≤ ordE l[j] s) = true then 8 else scanFrom (prevE l (j + 1 + 1)) (l.drop (j + 1 + 1))) := by
            have := HS2.out; rw [show prevE l (j + 1) = some l[j] from hgj] at this; rw [HP.out]; exact this
          generalize l[j] = s' at hgj HS3
          obtain ⟨b', o', hb', f0, f1, f2, f3, f4, f5, f6, f7⟩ := ev_cells (hs.ext hbx) hgj
          cases hb'
          clear hgj h0 HS2 HST
          have hj0 : (0 : Int) ≤ (j : Int) := Int.natCast_nonneg _
          have hj1 : (j : Int) < (l.length : Int) := by omega
          have hpos : decide ((0 : Int) < (j : Int) + 1) = true := decide_eq_true (by omega)
          have hwj : IntKind.i64.wrap (j : Int) = (j : Int) := IntWalk.i64_in _ (by omega)
          go_wp2_with fail
          go_region_held3 (SE w2 wr.heap.size (evC s) b (o + j * 8) s') (first | exact SE.start hX3 ⟨f0, f1, f2, f3, f4, f5, f6, f7⟩ | exact SE.ext (by with_reducible assumption) (by with_reducible assumption) hX3 | assumption) (first | (go_at_call 51; refine (event_order s' s _).mono ?_; rintro e w3 ⟨rfl, hb3⟩))
          have hb4 := ext_trans hbx.drew hb3
          clear hwj hpos f0 f1 f2 f3 f4 f5 f6 f7 hb3 hX3
          by_cases ho : 0 ≤ ordE s' s
          · have HF : Hid (checkL l = 8) := by
              have h1 := HS3.out
              rw [if_pos (decide_eq_true ho)] at h1
              have h2 := HC.out
              rw [h1, if_pos (by decide)] at h2; exact h2
            go_wp2
            go_ret
            exact ⟨ret_int HF.out.symm, hb4⟩
          · have HS4 : Hid (scanFrom none l = scanFrom (prevE l (j + 1 + 1)) (l.drop (j + 1 + 1))) := by
              have h1 := HS3.out
              rw [if_neg (by simp; omega)] at h1; exact h1
            go_wp2
            go_roundw
            case rel => exact ⟨j + 1 + 1, by omega, by go_num, HS4, hb4⟩
            case measure => simp [intOf]; omega
      · have hne : (checkE s != 0) = true := by simp [hc]
        have HF : Hid (checkL l = checkE s) := by
          have h1 := HK.out
          rw [HST.out, if_pos hc] at h1
          have h2 := HC.out
          rw [h1, if_pos hc] at h2; exact h2
        clear hc
        go_wp2
        go_ret
        exact ⟨ret_int HF.out.symm, hbx⟩
    · have hz : scanFrom none l = 0 := by
        have := HK.out
        rw [List.drop_eq_nil_of_le (by omega)] at this
        rw [this]; rfl
      have hsl := shardsTo_le l l.length
      by_cases h50 : 50 < (shardsOf l).length
      · have HF : Hid (checkL l = 2) := by have h2 := HC.out; rw [hz, if_neg (by simp), if_pos h50] at h2; exact h2
        clear hz
        go_wp2_with fail
        refine (event_shards l a c _ (hs.ext hb)).mono ?_
        rintro e w2 ⟨rfl, hb2⟩
        go_wp2
        go_ret
        exact ⟨ret_int HF.out.symm, ext_trans hb hb2⟩
      · have HF : Hid (checkL l = 0) := by have h2 := HC.out; rw [hz, if_neg (by simp), if_neg h50] at h2; exact h2
        clear hz
        go_wp2_with fail
        refine (event_shards l a c _ (hs.ext hb)).mono ?_
        rintro e w2 ⟨rfl, hb2⟩
        go_wp2
        go_ret
        exact ⟨ret_int HF.out.symm, ext_trans hb hb2⟩
end Go.Proofs.Ytacchooggifnhaa
namespace Go.Proofs.Ytacchooggifnhaa
open Go.RowKit
set_option maxHeartbeats 4000000 in
theorem ref7_CheckLog (l : List Ev) (hok : ∀ e ∈ l, e.ok) (a : Option Addr) (c : Nat) (w : World) (hs : Sl w (.slice a l.length c) l.length (l.flatMap evL)) :
    Calls Try.prog 33 #[.slice a l.length c] w fun e w' => e = .returned (.int .i64 (checkL l)) ∧ Below w.heap.size w w' := by
  have HOK := Lib.hid hok
  clear hok
  by_cases hl : 20000 < l.length
  · have hc : checkL l = 2 := by unfold checkL; rw [if_pos hl]
    rw [hc]
    clear hc
    go_enter Try.func33, Try.ntmps33
    go_wp2
    go_ret
    exact ⟨rfl, Below.refl _ _⟩
  have HC : Hid (checkL l = if scanFrom none l ≠ 0 then scanFrom none l else if 50 < (shardsOf l).length then 2 else 0) := by
    have : checkL l = if scanFrom none l ≠ 0 then scanFrom none l else if 50 < (shardsOf l).length then 2 else 0 := by unfold checkL; rw [if_neg hl]
    exact this
  go_enter Try.func33, Try.ntmps33
  go_wp2
  go_loopw [11] (fun i wr => ∃ k : Nat, k ≤ l.length ∧ i = .int .i64 k ∧ Hid (scanFrom none l = scanFrom (prevE l k) (l.drop k)) ∧ Below w.heap.size w wr) (fun i _ => l.length - (intOf i).toNat)
  case atStart => exact ⟨0, by omega, rfl, rfl, Below.refl _ _⟩
  case round =>
    obtain ⟨k, hk, rfl, HK, hb⟩ := hrel
    by_cases hlt : k < l.length
    · have hgk := List.getElem?_eq_getElem hlt
      have hsok : (l[k]).ok := HOK.out _ (List.getElem_mem _)
      generalize l[k] = s at hgk hsok
      obtain ⟨b, o, rfl, e0, e1, e2, e3, e4, e5, e6, e7⟩ := ev_cells (hs.ext hb) hgk
      have HST := Lib.hid (scan_step (prevE l k) hgk)
      have HP : Hid (prevE l (k + 1) = some s) := hgk
      clear hgk
      go_upto_region 6 with (fail)
      clear e0 e1 e2 e3 e4 e5 e6 e7
      refine wp_box1 fun X hszX hbX hX => ?_
      obtain ⟨_, hX2⟩ := id hX
      clear hszX
      go_wp2_with fail
      refine (ref7_Check s hsok _).mono ?_
      rintro e w2 ⟨rfl, hb2⟩
      have hbx := ext_trans (ext_trans hb hbX) hb2
      have hX3 := hX.ext hb2
      clear hX hX2 hbX hb2
      by_cases hc : checkE s = 0
      · have hne : (checkE s != 0) = false := by simp [hc]
        have HS2 : Hid (scanFrom none l = if (match prevE l k with | none => false | some q => decide (0 ≤ ordE q s)) = true then 8 else scanFrom (some s) (l.drop (k + 1))) := by
          have := HK.out; rw [HST.out, if_neg (by simp [hc])] at this; exact this
        clear hc
        by_cases h0 : k = 0
        · subst h0
          have HS3 : Hid (scanFrom none l = scanFrom (prevE l (0 + 1)) (l.drop (0 + 1))) := by have := HS2.out; simp only [prevE] at this; rw [HP.out]; exact (by simpa using this : scanFrom none l = scanFrom (some s) (l.drop (0 + 1)))
          go_wp2_with fail
          go_quiet (fail)
          go_wp2
          exact ⟨⟨0 + 1, by omega, rfl, HS3, below_drewN hbx _⟩, by simp [intOf]; omega⟩
        · obtain ⟨j, rfl⟩ : ∃ j, k = j + 1 := ⟨k - 1, by omega⟩
          have hgj := List.getElem?_eq_getElem (show j < l.length by omega)
          have HS3 : Hid (scanFrom none l = if decide (0 ≤ ordE l[j] s) = true then 8 else scanFrom (prevE l (j + 1 + 1)) (l.drop (j + 1 + 1))) := by
            have := HS2.out; rw [show prevE l (j + 1) = some l[j] from hgj] at this; rw [HP.out]; exact this
          generalize l[j] = s' at hgj HS3
          obtain ⟨b', o', hb', f0, f1, f2, f3, f4, f5, f6, f7⟩ := ev_cells (hs.ext hbx) hgj
          cases hb'
          clear hgj h0 HS2 HST
          have hj0 : (0 : Int) ≤ (j : Int) := Int.natCast_nonneg _
          have hj1 : (j : Int) < (l.length : Int) := by omega
          have hpos : decide ((0 : Int) < (j : Int) + 1) = true := decide_eq_true (by omega)
          have hwj : IntKind.i64.wrap (j : Int) = (j : Int) := IntWalk.i64_in _ (by omega)
          by_cases ho : 0 ≤ ordE s' s
          · have HF : Hid (checkL l = 8) := by
              have h1 := HS3.out
              rw [if_pos (decide_eq_true ho)] at h1
              have h2 := HC.out
              rw [h1, if_pos (by decide)] at h2; exact h2
            have HD := Lib.hid (show decide (ordE s' s < 0) = false from decide_eq_false (by omega))
            go_wp2_with fail
            go_region_held3 (SE w2 wr.heap.size (evC s) b (o + j * 8) s') (first | exact SE.start hX3 ⟨f0, f1, f2, f3, f4, f5, f6, f7⟩ | exact SE.ext (by with_reducible assumption) (by with_reducible assumption) hX3 | assumption) (first | (go_at_call 57; refine (ref7_ahead s' s _).mono ?_; rw [HD.out]; rintro e w3 ⟨rfl, hb3⟩))
            have hb4 := ext_trans hbx.drew hb3
            clear hwj hpos f0 f1 f2 f3 f4 f5 f6 f7 hb3 hX3
            go_wp2
            go_ret
            exact ⟨ret_int HF.out.symm, hb4⟩
          · have HS4 : Hid (scanFrom none l = scanFrom (prevE l (j + 1 + 1)) (l.drop (j + 1 + 1))) := by
              have h1 := HS3.out
              rw [if_neg (by simp; omega)] at h1; exact h1
            have HD := Lib.hid (show decide (ordE s' s < 0) = true from decide_eq_true (by omega))
            go_wp2_with fail
            go_region_held3 (SE w2 wr.heap.size (evC s) b (o + j * 8) s') (first | exact SE.start hX3 ⟨f0, f1, f2, f3, f4, f5, f6, f7⟩ | exact SE.ext (by with_reducible assumption) (by with_reducible assumption) hX3 | assumption) (first | (go_at_call 57; refine (ref7_ahead s' s _).mono ?_; rw [HD.out]; rintro e w3 ⟨rfl, hb3⟩))
            have hb4 := ext_trans hbx.drew hb3
            clear hwj hpos f0 f1 f2 f3 f4 f5 f6 f7 hb3 hX3
            go_wp2
            go_roundw
            case rel => exact ⟨j + 1 + 1, by omega, by go_num, HS4, hb4⟩
            case measure => simp [intOf]; omega
      · have hne : (checkE s != 0) = true := by simp [hc]
        have HF : Hid (checkL l = checkE s) := by
          have h1 := HK.out
          rw [HST.out, if_pos hc] at h1
          have h2 := HC.out
          rw [h1, if_pos hc] at h2; exact h2
        clear hc
        go_wp2
        go_ret
        exact ⟨ret_int HF.out.symm, hbx⟩
    · have hz : scanFrom none l = 0 := by
        have := HK.out
        rw [List.drop_eq_nil_of_le (by omega)] at this
        rw [this]; rfl
      have hsl := shardsTo_le l l.length
      by_cases h50 : 50 < (shardsOf l).length
      · have HF : Hid (checkL l = 2) := by have h2 := HC.out; rw [hz, if_neg (by simp), if_pos h50] at h2; exact h2
        clear hz
        go_wp2_with fail
        refine (ref7_shards l (by omega) a c _ (hs.ext hb)).mono ?_
        rintro e w2 ⟨a2, c2, rfl, _, hb2⟩
        go_wp2
        go_ret
        exact ⟨ret_int HF.out.symm, ext_trans hb hb2⟩
      · have HF : Hid (checkL l = 0) := by have h2 := HC.out; rw [hz, if_neg (by simp), if_neg h50] at h2; exact h2
        clear hz
        go_wp2_with fail
        refine (ref7_shards l (by omega) a c _ (hs.ext hb)).mono ?_
        rintro e w2 ⟨a2, c2, rfl, _, hb2⟩
        go_wp2
        go_ret
        exact ⟨ret_int HF.out.symm, ext_trans hb hb2⟩
end Go.Proofs.Ytacchooggifnhaa
namespace Go.Proofs.Ytacchooggifnhaa
open Go.RowKit
/-- the number that must come next -/
def nextAt (l : List Ev) : Nat → Int
  | 0 => 1
  | k + 1 => match l[k]?, l[k + 1]? with
    | some p, some e => if p.shard = e.shard then p.number + 1 else 1
    | _, _ => 1
theorem ite8 (b : Bool) (x : Int) (h : (if b = true then (8 : Int) else x) = 0) : x = 0 := by cases b <;> simp_all
theorem scan_ok : ∀ (p : Option Ev) (l : List Ev), scanFrom p l = 0 → ∀ e ∈ l, checkE e = 0
  | _, [], _, e, he => by cases he
  | p, x :: l, h, e, he => by
    simp only [scanFrom] at h
    by_cases hx : checkE x = 0
    · rw [if_neg (by simp [hx])] at h
      have h' := ite8 _ _ h
      rcases List.mem_cons.1 he with rfl | he
      · exact hx
      · exact scan_ok _ l h' e he
    · rw [if_pos hx] at h; omega
theorem check_ok {l : List Ev} (h : checkL l = 0) : (∀ e ∈ l, checkE e = 0) ∧ l.length ≤ 20000 ∧ scanFrom none l = 0 := by
  unfold checkL at h
  split at h
  · cases h
  · split at h
    · omega
    · have h0 : scanFrom none l = 0 := by omega
      exact ⟨scan_ok none l h0, by omega, h0⟩
theorem number_ok {e : Ev} (h : checkE e = 0) : 1 ≤ e.number ∧ e.number ≤ 1000000000000 ∧ 0 ≤ e.time ∧ e.time ≤ 4000000000 := by
  unfold checkE at h
  split at h
  · cases h
  split at h
  · cases h
  split at h
  · cases h
  split at h
  · cases h
  · simp_all [withinB]
end Go.Proofs.Ytacchooggifnhaa
namespace Go.Proofs.Ytacchooggifnhaa
open Go.RowKit
theorem ev_info : (Try.prog.info? 42).map (fun i => (i.zero, i.size, i.bytes)) = some (some (.agg #[.string { data := #[] }, .int .i64 0, .int .i64 0, .int .i64 0, .string { data := #[] }, .string { data := #[] }, .int .i64 0, .int .i64 0]), 8, 88) := by kernel_rfl
/-- what is promised behind an event, if 'pr' was before it -/
def promise (pr : Int) (e : Ev) : Int := if e.kind = 3 then (if pr < e.time then e.time else pr) else pr
def promTo (l : List Ev) : Nat → Int
  | 0 => 0
  | k + 1 => match l[k]? with
    | some e => promise (if newAt l k then 0 else promTo l k) e
    | none => 0
def before (l : List Ev) (k : Nat) : Int := if newAt l k then 0 else promTo l k
theorem box_grown {w w' : World} {b : Nat} {A : Array Value} {row : Option Nat} (hg : w.grownBy w' row) (h : Box w b A) (hr : ∀ q, row = some q → q ≠ b) : Box w' b A :=
  ⟨Nat.lt_of_lt_of_le h.1 hg.size, fun j => (World.cell?_of_block (w := w) (hg.block b h.1 (fun e => hr b e.symm rfl))).trans (h.2 j)⟩
end Go.Proofs.Ytacchooggifnhaa
namespace Go.Proofs.Ytacchooggifnhaa
open Go.RowKit
def scanS : Option ByteArray → List ByteArray → Int
  | _, [] => 0
  | p, s :: r => if nameB s.data.toList = false then 5 else if (match p with | none => false | some q => decide (cmpS s q ≤ 0)) = true then 8 else scanS (some s) r
def checkSh (L : List ByteArray) : Int := if L.length = 0 then 9 else if 50 < L.length then 2 else scanS none L
def prevS (l : List ByteArray) : Nat → Option ByteArray
  | 0 => none
  | k + 1 => l[k]?
theorem drop_nil {α : Type} (l : List α) (k : Nat) (h : l.length ≤ k) : l.drop k = [] := List.drop_eq_nil_of_le h
theorem scanS_step (p : Option ByteArray) {l : List ByteArray} {k : Nat} {s : ByteArray} (h : l[k]? = some s) : scanS p (l.drop k) = if nameB s.data.toList = false then 5 else if (match p with | none => false | some q => decide (cmpS s q ≤ 0)) = true then 8 else scanS (some s) (l.drop (k + 1)) := by
  obtain ⟨hk, rfl⟩ := List.getElem?_eq_some_iff.1 h
  rw [List.drop_eq_getElem_cons hk]; rfl
/-- a string out of a slice of strings -/
theorem str_cell {w : World} {a : Option Addr} {n c k : Nat} {l : List ByteArray} {x : ByteArray} (s : Sl w (.slice a n c) n (l.map Value.string)) (h : l[k]? = some x) :
    ∃ b o, a = some ⟨b, o, none⟩ ∧ w.cell? ⟨b, o + k, none⟩ = some (.string x) := by
  obtain ⟨a', cap, hv, _, _, _, h3⟩ := s
  obtain ⟨rfl, _, _⟩ : a = a' ∧ True ∧ True := by cases hv; exact ⟨rfl, trivial, trivial⟩
  obtain ⟨b, o, rfl, hc⟩ := h3 k (.string x) (by rw [List.getElem?_map, h]; rfl)
  exact ⟨b, o, rfl, hc⟩
theorem leq_of (a b : ByteArray) : (Op.bytesLess a.toList b.toList || a.toList == b.toList) = decide (cmpS a b ≤ 0) := by
  rw [less_of, beq_of, Bool.eq_iff_iff]
  have := cmpS_tri a b
  simp only [Bool.or_eq_true, decide_eq_true_eq]
  omega

set_option maxHeartbeats 8000000 in
theorem event_checkShards (L : List ByteArray) (hok : ∀ s ∈ L, s.size ≤ maxLen) (a : Option Addr) (c : Nat) (w : World) (hs : Sl w (.slice a L.length c) L.length (L.map Value.string)) :
    Calls Try.prog 38 #[.slice a L.length c] w fun e w' => e = .returned (.int .i64 (checkSh L)) ∧ w = w' := by
  have HOK := Lib.hid hok
  clear hok
  by_cases h0 : L.length = 0
  · have HC : Hid (checkSh L = 9) := by
      have : checkSh L = 9 := by unfold checkSh; rw [if_pos h0]
      exact this
    have hz : ((L.length : Int) == 0) = true := by simp [h0]
    clear h0
    go_enter Try.func38, Try.ntmps38
    go_wp2
    go_ret
    exact ⟨ret_int HC.out.symm, rfl⟩
  have hz : ((L.length : Int) == 0) = false := by simp; exact fun h => h0 (by simp [h])
  by_cases hl : 50 < L.length
  · have HC : Hid (checkSh L = 2) := by
      have : checkSh L = 2 := by unfold checkSh; rw [if_neg h0, if_pos hl]
      exact this
    clear h0
    go_enter Try.func38, Try.ntmps38
    go_wp2
    go_ret
    exact ⟨ret_int HC.out.symm, rfl⟩
  have HC : Hid (checkSh L = scanS none L) := by
    have : checkSh L = scanS none L := by unfold checkSh; rw [if_neg h0, if_neg hl]
    exact this
  clear h0
  go_enter Try.func38, Try.ntmps38
  go_wp2
  go_loop [15] (fun i => ∃ k : Nat, k ≤ L.length ∧ i = .int .i64 k ∧ Hid (checkSh L = scanS (prevS L k) (L.drop k))) (fun i => L.length - (intOf i).toNat)
  case atStart => exact ⟨0, by omega, rfl, HC⟩
  case round =>
    obtain ⟨k, hk, rfl, HK⟩ := hrel
    by_cases hlt : k < L.length
    · have hgk := List.getElem?_eq_getElem hlt
      have hsz := HOK.out L[k] (List.getElem_mem _)
      generalize L[k] = s at hgk hsz
      obtain ⟨b, o, rfl, e0⟩ := str_cell hs hgk
      have HST := Lib.hid (scanS_step (prevS L k) hgk)
      have HP : Hid (prevS L (k + 1) = some s) := hgk
      clear hgk
      by_cases hn : nameB s.data.toList = false
      · have HF : Hid (checkSh L = 5) := by have := HK.out; rw [HST.out, if_pos hn] at this; exact this
        go_wp2_with (go_at_call 39; refine (rule_XisName s hsz _).mono ?_; rintro e w' ⟨rfl, rfl⟩)
        go_ret
        exact ⟨ret_int HF.out.symm, rfl⟩
      have hn' : nameB s.data.toList = true := by simpa using hn
      have HS2 : Hid (checkSh L = if (match prevS L k with | none => false | some q => decide (cmpS s q ≤ 0)) = true then 8 else scanS (some s) (L.drop (k + 1))) := by
        have := HK.out; rw [HST.out, if_neg (by simp [hn'])] at this; exact this
      clear hn
      by_cases h0 : k = 0
      · subst h0
        simp only [Nat.add_zero] at e0
        have HS3 : Hid (checkSh L = scanS (prevS L (0 + 1)) (L.drop (0 + 1))) := by have := HS2.out; simp only [prevS] at this; rw [HP.out]; exact (by simpa using this : checkSh L = scanS (some s) (L.drop (0 + 1)))
        go_wp2_with (go_at_call 39; refine (rule_XisName s hsz _).mono ?_; rintro e w' ⟨rfl, rfl⟩)
        go_round
        case rel => exact ⟨0 + 1, by omega, rfl, HS3⟩
        case measure => simp [intOf]; omega
      · obtain ⟨j, rfl⟩ : ∃ j, k = j + 1 := ⟨k - 1, by omega⟩
        have hgj := List.getElem?_eq_getElem (show j < L.length by omega)
        have HS3 : Hid (checkSh L = if decide (cmpS s L[j] ≤ 0) = true then 8 else scanS (prevS L (j + 1 + 1)) (L.drop (j + 1 + 1))) := by
          have := HS2.out; rw [show prevS L (j + 1) = some L[j] from hgj] at this; rw [HP.out]; exact this
        generalize L[j] = s' at hgj HS3
        obtain ⟨b', o', hb', f0⟩ := str_cell hs hgj
        cases hb'
        have hlq := leq_of s s'
        clear hgj h0 HS2 HST
        by_cases ho : cmpS s s' ≤ 0
        · have HF : Hid (checkSh L = 8) := by have h1 := HS3.out; rw [if_pos (decide_eq_true ho)] at h1; exact h1
          rw [decide_eq_true ho] at hlq
          clear ho
          go_wp2_with (go_at_call 39; refine (rule_XisName s hsz _).mono ?_; rintro e w' ⟨rfl, rfl⟩)
          all_goals first | (go_ret; exact ⟨ret_int HF.out.symm, rfl⟩) | (exfalso; simp_all; done)
        · have HS4 : Hid (checkSh L = scanS (prevS L (j + 1 + 1)) (L.drop (j + 1 + 1))) := by
            have h1 := HS3.out
            rw [if_neg (by simp; omega)] at h1; exact h1
          rw [decide_eq_false ho] at hlq
          clear ho
          go_wp2_with (go_at_call 39; refine (rule_XisName s hsz _).mono ?_; rintro e w' ⟨rfl, rfl⟩)
          all_goals go_round
          case rel => exact ⟨j + 1 + 1, by omega, by go_num, HS4⟩
          case measure => simp [intOf]; omega
    · have HF : Hid (checkSh L = 0) := by
        have := HK.out
        rw [drop_nil L k (by omega)] at this
        rw [this]; rfl
      go_wp2
      go_ret
      exact ⟨ret_int HF.out.symm, rfl⟩

set_option maxHeartbeats 8000000 in
theorem ref7_checkShards (L : List ByteArray) (hok : ∀ s ∈ L, s.size ≤ maxLen) (a : Option Addr) (c : Nat) (w : World) (hs : Sl w (.slice a L.length c) L.length (L.map Value.string)) :
    Calls Try.prog 63 #[.slice a L.length c] w fun e w' => e = .returned (.int .i64 (checkSh L)) ∧ w = w' := by
  have HOK := Lib.hid hok
  clear hok
  by_cases h0 : L.length = 0
  · have HC : Hid (checkSh L = 9) := by
      have : checkSh L = 9 := by unfold checkSh; rw [if_pos h0]
      exact this
    have hz : ((L.length : Int) == 0) = true := by simp [h0]
    clear h0
    go_enter Try.func63, Try.ntmps63
    go_wp2
    go_ret
    exact ⟨ret_int HC.out.symm, rfl⟩
  have hz : ((L.length : Int) == 0) = false := by simp; exact fun h => h0 (by simp [h])
  by_cases hl : 50 < L.length
  · have HC : Hid (checkSh L = 2) := by
      have : checkSh L = 2 := by unfold checkSh; rw [if_neg h0, if_pos hl]
      exact this
    clear h0
    go_enter Try.func63, Try.ntmps63
    go_wp2
    go_ret
    exact ⟨ret_int HC.out.symm, rfl⟩
  have HC : Hid (checkSh L = scanS none L) := by
    have : checkSh L = scanS none L := by unfold checkSh; rw [if_neg h0, if_neg hl]
    exact this
  clear h0
  go_enter Try.func63, Try.ntmps63
  go_wp2
  go_loop [15] (fun i => ∃ k : Nat, k ≤ L.length ∧ i = .int .i64 k ∧ Hid (checkSh L = scanS (prevS L k) (L.drop k))) (fun i => L.length - (intOf i).toNat)
  case atStart => exact ⟨0, by omega, rfl, HC⟩
  case round =>
    obtain ⟨k, hk, rfl, HK⟩ := hrel
    by_cases hlt : k < L.length
    · have hgk := List.getElem?_eq_getElem hlt
      have hsz := HOK.out L[k] (List.getElem_mem _)
      generalize L[k] = s at hgk hsz
      obtain ⟨b, o, rfl, e0⟩ := str_cell hs hgk
      have HST := Lib.hid (scanS_step (prevS L k) hgk)
      have HP : Hid (prevS L (k + 1) = some s) := hgk
      clear hgk
      by_cases hn : nameB s.data.toList = false
      · have HF : Hid (checkSh L = 5) := by have := HK.out; rw [HST.out, if_pos hn] at this; exact this
        go_wp2_with (go_at_call 35; refine (ref_IsName s hsz _).mono ?_; rintro e w' ⟨rfl, rfl⟩)
        go_ret
        exact ⟨ret_int HF.out.symm, rfl⟩
      have hn' : nameB s.data.toList = true := by simpa using hn
      have HS2 : Hid (checkSh L = if (match prevS L k with | none => false | some q => decide (cmpS s q ≤ 0)) = true then 8 else scanS (some s) (L.drop (k + 1))) := by
        have := HK.out; rw [HST.out, if_neg (by simp [hn'])] at this; exact this
      clear hn
      by_cases h0 : k = 0
      · subst h0
        simp only [Nat.add_zero] at e0
        have HS3 : Hid (checkSh L = scanS (prevS L (0 + 1)) (L.drop (0 + 1))) := by have := HS2.out; simp only [prevS] at this; rw [HP.out]; exact (by simpa using this : checkSh L = scanS (some s) (L.drop (0 + 1)))
        go_wp2_with (go_at_call 35; refine (ref_IsName s hsz _).mono ?_; rintro e w' ⟨rfl, rfl⟩)
        go_round
        case rel => exact ⟨0 + 1, by omega, rfl, HS3⟩
        case measure => simp [intOf]; omega
      · obtain ⟨j, rfl⟩ : ∃ j, k = j + 1 := ⟨k - 1, by omega⟩
        have hgj := List.getElem?_eq_getElem (show j < L.length by omega)
        have HS3 : Hid (checkSh L = if decide (cmpS s L[j] ≤ 0) = true then 8 else scanS (prevS L (j + 1 + 1)) (L.drop (j + 1 + 1))) := by
          have := HS2.out; rw [show prevS L (j + 1) = some L[j] from hgj] at this; rw [HP.out]; exact this
        generalize L[j] = s' at hgj HS3
        obtain ⟨b', o', hb', f0⟩ := str_cell hs hgj
        cases hb'
        have hlq := leq_of s s'
        clear hgj h0 HS2 HST
        by_cases ho : cmpS s s' ≤ 0
        · have HF : Hid (checkSh L = 8) := by have h1 := HS3.out; rw [if_pos (decide_eq_true ho)] at h1; exact h1
          rw [decide_eq_true ho] at hlq
          clear ho
          go_wp2_with (go_at_call 35; refine (ref_IsName s hsz _).mono ?_; rintro e w' ⟨rfl, rfl⟩)
          all_goals first | (go_ret; exact ⟨ret_int HF.out.symm, rfl⟩) | (exfalso; simp_all; done)
        · have HS4 : Hid (checkSh L = scanS (prevS L (j + 1 + 1)) (L.drop (j + 1 + 1))) := by
            have h1 := HS3.out
            rw [if_neg (by simp; omega)] at h1; exact h1
          rw [decide_eq_false ho] at hlq
          clear ho
          go_wp2_with (go_at_call 35; refine (ref_IsName s hsz _).mono ?_; rintro e w' ⟨rfl, rfl⟩)
          all_goals go_round
          case rel => exact ⟨j + 1 + 1, by omega, by go_num, HS4⟩
          case measure => simp [intOf]; omega
    · have HF : Hid (checkSh L = 0) := by
        have := HK.out
        rw [drop_nil L k (by omega)] at this
        rw [this]; rfl
      go_wp2
      go_ret
      exact ⟨ret_int HF.out.symm, rfl⟩
end Go.Proofs.Ytacchooggifnhaa
