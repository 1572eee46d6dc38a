/- slices.Grow and slices.Concat at []api.Event. event.unite: sorted, each once; or a clash. event.Join. The faults of a list that is in order. -/
import Derived.Test.YtacchooggifnhaaDoorProg
import Derived.Test.YtacchooggifnhaaDoorCl03
import Derived.Test.YtacchooggifnhaaDoorCl12
import Derived.Test.YtacchooggifnhaaDoorCl07
import Derived.Test.YtacchooggifnhaaDoorCl01
import Derived.Outline
namespace Go.Proofs.YtacchooggifnhaaDoor
open Go.RowKit
namespace CCCatE
theorem e_bytes : Tryd.t43.bytes = 88 := by kernel_rfl
theorem e_info : (Tryd.prog.info? 43).map (fun i => (i.zero, i.size, i.bytes)) = some (some (.agg #[.string { data := #[] }, .int .i64 0, .int .i64 0, .int .i64 0, .string { data := #[] }, .string { data := #[] }, .int .i64 0, .int .i64 0]), 8, 88) := by kernel_rfl
def cells (l : List Ev) : List Value := l.flatMap evL
theorem cells_append (l m : List Ev) : cells (l ++ m) = cells l ++ cells m := List.flatMap_append
theorem cells_length (l : List Ev) : (cells l).length = l.length * 8 := flat_length (f := evL) (sz := 8) (fun _ => rfl) l
theorem cells_one (l : List Ev) : ∀ u ∈ cells l, u.oneCell' = true := by
  intro u hu
  simp only [cells, List.mem_flatMap] at hu
  obtain ⟨x, _, hx⟩ := hu
  exact evL_one x u hx
/-- What Grow(nil, n) leaves: a new array with room for n elements. -/
def GrowPost (w : World) (n : Nat) (e : Ending) (w' : World) : Prop :=
  ∃ cap, e = .returned (.slice (some ⟨w.heap.size, 0, none⟩) 0 cap) ∧ n ≤ cap ∧ w'.ownsRow w.heap.size 43 8 (.slice (some ⟨w.heap.size, 0, none⟩) 0 cap) 0 [] ∧ Below w.heap.size w w'
theorem nextcap (n : Nat) (h : 0 < n) : Builtin.nextslicecap n 0 = n := by unfold Builtin.nextslicecap; rw [if_pos (by omega)]
theorem grow_post (w : World) (n cap : Nat) (hn : n ≤ cap) (hm : cap ≤ maxLen) :
    GrowPost w n (.returned (.slice (some ⟨w.heap.size, 0, none⟩) 0 cap)) (w.alloc (Obj.cells (Builtin.zeroCells #[.string { data := #[] }, .int .i64 0, .int .i64 0, .int .i64 0, .string { data := #[] }, .string { data := #[] }, .int .i64 0, .int .i64 0] n ++ Builtin.zeroCells #[.string { data := #[] }, .int .i64 0, .int .i64 0, .int .i64 0, .string { data := #[] }, .string { data := #[] }, .int .i64 0, .int .i64 0] (cap - n)) 43)).drew := by
  refine ⟨cap, rfl, hn, ?_, by go_grown⟩
  exact World.ownsRow.drew (World.ownsRow_made w _ cap (Nat.le_refl _) hm (by simp [size_zeroCells]; omega))
set_option maxHeartbeats 1000000 in
set_option maxRecDepth 100000 in
theorem grow_some (n : Nat) (hn : 0 < n) (hn' : n ≤ 3198579280802) (w : World) :
    Calls Tryd.prog 45 #[.slice none 0 0, .int .i64 n] w (GrowPost w n) := by
  have hb := e_bytes
  have hx := nextcap n hn
  have hc1 := grownCap_ge w n 0 43
  have hc2 := grownCap_le_maxLen w n 0 43 (by unfold maxLen; omega)
  unfold grownCap at hc1 hc2
  go_enter Tryd.func45, Tryd.ntmps45
  go_wp2
  all_goals first | (exfalso; simp_all; omega) | skip
  go_ret
  exact grow_post w n _ hc1 hc2
theorem grow_none (w : World) :
    Calls Tryd.prog 45 #[.slice none 0 0, .int .i64 0] w fun e w' => e = .returned (.slice none 0 0) ∧ w = w' := by
  go_enter Tryd.func45, Tryd.ntmps45
  go_wp2
  go_ret
  exact ⟨rfl, rfl⟩
def tot (L : Nat → Nat) : Nat → Nat
  | 0 => 0
  | k + 1 => tot L k + L k
def cat {α : Type} (ls : Nat → List α) : Nat → List α
  | 0 => []
  | k + 1 => cat ls k ++ ls k
theorem tot_mono (L : Nat → Nat) {j k : Nat} (h : j ≤ k) : tot L j ≤ tot L k := by
  induction h with
  | refl => exact Nat.le_refl _
  | step _ ih => exact Nat.le_trans ih (Nat.le_add_right _ _)
theorem cat_length {α : Type} (ls : Nat → List α) (L : Nat → Nat) (n : Nat) (h : ∀ i, i < n → (ls i).length = L i) : (cat ls n).length = tot L n := by
  induction n with
  | zero => rfl
  | succ k ih => simp only [cat, tot, List.length_append]; rw [ih (fun i hi => h i (by omega)), h k (by omega)]
def CatPost (w : World) (l : List Ev) (e : Ending) (w' : World) : Prop :=
  ∃ a cap, e = .returned (.slice a l.length cap) ∧ Sl w' (.slice a l.length cap) l.length (cells l) ∧ w'.ownsRow w.heap.size 43 8 (.slice a l.length cap) l.length (cells l) ∧ Below w.heap.size w w'
set_option maxHeartbeats 1000000 in
set_option maxRecDepth 100000 in
theorem cat_any (b o n cap : Nat) (A : Nat → Option Addr) (L C : Nat → Nat) (ls : Nat → List Ev) (w : World) (hn : n ≤ 9223372036854775807)
    (hcell : ∀ i, i < n → w.cell? ⟨b, o + i, none⟩ = some (.slice (A i) (L i) (C i)))
    (hsl : ∀ i, i < n → Sl w (.slice (A i) (L i) (C i)) (L i) (cells (ls i))) (hlen : ∀ i, i < n → (ls i).length = L i)
    (htot : tot L n ≤ 3198579280802) :
    Calls Tryd.prog 34 #[.slice (some ⟨b, o, none⟩) n cap] w (CatPost w (cat ls n)) := by
  have HC := Lib.hid hcell
  have HS := Lib.hid hsl
  have HL := Lib.hid hlen
  have HB := Lib.hid e_info
  clear hcell hsl hlen
  go_enter Tryd.func34, Tryd.ntmps34
  go_wp2
  go_loop [3, 5, 11] (fun t _ i => ∃ k : Nat, k ≤ n ∧ i = .int .i64 k ∧ t = .int .i64 (tot L k)) (fun _ _ i => n - (intOf i).toNat)
  case atStart => exact ⟨0, by omega, rfl, rfl⟩
  case round =>
    obtain ⟨k, hk, rfl, rfl⟩ := hrel
    have hm := tot_mono L hk
    by_cases hlt : k < n
    · have hc := HC.out k hlt
      have hm2 := tot_mono L (show k + 1 ≤ n by omega)
      simp only [tot] at hm2
      go_wp2
      go_round
      case rel => exact ⟨k + 1, by omega, by go_num, by simp only [tot]; go_num⟩
      case measure => simp [intOf]; omega
    · have hkn : k = n := by omega
      subst hkn
      by_cases h0 : 0 < tot L k
      · go_wp2_with fail
        refine (grow_some _ h0 htot _).mono ?_
        rintro e w1 ⟨cap1, rfl, hcap, hown, hb1⟩
        go_wp2
        go_loopw [6, 8, 27] (fun v _ i wr => ∃ j : Nat, j ≤ k ∧ i = .int .i64 j ∧ v = .slice (some ⟨w.heap.size, 0, none⟩) (tot L j) cap1 ∧ wr.ownsRow w.heap.size 43 8 (.slice (some ⟨w.heap.size, 0, none⟩) (tot L j) cap1) (tot L j) (cells (cat ls j)) ∧ Below w.heap.size w wr) (fun _ _ i _ => k - (intOf i).toNat)
        case atStart => exact ⟨0, by omega, rfl, rfl, hown, hb1⟩
        case round =>
          obtain ⟨j, hj, rfl, rfl, hownj, hbj⟩ := hrel
          by_cases hjk : j < k
          · have hc := cell_later hbj (HC.out j hjk)
            have hs := (HS.out j hjk).ext hbj
            have hlj := HL.out j hjk
            have hm2 := tot_mono L (show j + 1 ≤ k by omega)
            simp only [tot] at hm2
            have HLJ := Lib.hid hlj
            clear hlj
            go_wp2_with (at_builtin; refine wpList_append_spare_sl rfl _ _ 22 rfl w.heap.size 43 Tryd.underlying22 HB.out rfl hownj rfl hs ?c1 (cells_one _) ?c2 ?_; rotate_left 2; intro w2 hown2 hg2)
            case c1 => rw [cells_length, HLJ.out]
            case c2 => omega
            rw [← cells_append] at hown2
            have hb2 := hbj.grown hg2 hbj.size (fun k e => by cases e; exact Nat.le_refl _)
            go_wp2
            go_roundw
            case rel => exact ⟨j + 1, by omega, by go_num, rfl, hown2, hb2⟩
            case measure => simp [intOf]; omega
          · have hjk' : j = k := by omega
            subst hjk'
            have hcl := cat_length ls L j HL.out
            have HCL := Lib.hid hcl
            clear hcl
            go_wp2
            go_ret
            exact ⟨_, _, by rw [HCL.out]; rfl, by rw [HCL.out]; exact Sl.ofOwn hownj, by rw [HCL.out]; exact hownj, hbj⟩
      · have h00 : tot L k = 0 := by omega
        have HT := Lib.hid h00
        have ht0 : ((tot L k : Nat) : Int) = 0 := by omega
        clear h00
        rw [ht0]
        go_wp2_with fail
        refine (grow_none _).mono ?_
        rintro e w1 ⟨rfl, rfl⟩
        go_wp2
        go_loopw [6, 8, 27] (fun v _ i wr => ∃ j : Nat, j ≤ k ∧ i = .int .i64 j ∧ v = .slice none 0 0 ∧ Below w.heap.size w wr) (fun _ _ i _ => k - (intOf i).toNat)
        case atStart => exact ⟨0, by omega, rfl, rfl, Below.refl _ _⟩
        case round =>
          obtain ⟨j, hj, rfl, rfl, hbj⟩ := hrel
          by_cases hjk : j < k
          · have hc := cell_later hbj (HC.out j hjk)
            have hs := (HS.out j hjk).ext hbj
            have hlj := HL.out j hjk
            have hm2 := tot_mono L (show j + 1 ≤ k by omega)
            simp only [tot] at hm2
            have hL0 : L j = 0 := by have := HT.out; omega
            rw [hL0] at hc hs hlj
            have hl0 : ls j = [] := List.length_eq_zero_iff.1 hlj
            rw [hl0] at hs
            clear hlj hl0 hm2 hL0 ht0
            go_wp2_with (at_builtin; refine wpList_append_sl rfl _ _ 22 rfl w.heap.size 43 Tryd.underlying22 HB.out rfl (by decide) rfl (World.ownsRow_nil _ _ _ _) rfl hs rfl (by simp [cells]) (by decide) (by decide) hbj.size ?_; intro v2 w2 hown2 hg2 hv2)
            obtain rfl := hv2.2 ⟨rfl, rfl⟩
            have hb2 := hbj.grown hg2 hbj.size (fun k e => by cases e)
            go_wp2
            go_roundw
            case rel => exact ⟨j + 1, by omega, by go_num, rfl, hb2⟩
            case measure => simp [intOf]; omega
          · have hjk' : j = k := by omega
            subst hjk'
            have hcl := cat_length ls L j HL.out
            have hcn : cat ls j = [] := List.length_eq_zero_iff.1 (by rw [hcl]; exact HT.out)
            have HCN := Lib.hid hcn
            clear hcl hcn
            go_wp2
            go_ret
            exact ⟨none, 0, by rw [HCN.out]; rfl, by rw [HCN.out]; exact Sl.nil _, by rw [HCN.out]; exact World.ownsRow_nil _ _ _ _, hbj⟩
def pick2 {α : Type} (x y : α) : Nat → α
  | 0 => x
  | _ => y
theorem forall2 {p : Nat → Prop} (h0 : p 0) (h1 : p 1) : ∀ i, i < 2 → p i := by
  intro i hi
  obtain rfl | rfl : i = 0 ∨ i = 1 := by omega
  · exact h0
  · exact h1
theorem cat_two (b cap : Nat) (a0 a1 : Option Addr) (n0 n1 c0 c1 : Nat) (l0 l1 : List Ev) (w : World)
    (h0 : w.cell? ⟨b, 0, none⟩ = some (.slice a0 n0 c0)) (h1 : w.cell? ⟨b, 1, none⟩ = some (.slice a1 n1 c1))
    (s0 : Sl w (.slice a0 n0 c0) n0 (cells l0)) (s1 : Sl w (.slice a1 n1 c1) n1 (cells l1))
    (e0 : l0.length = n0) (e1 : l1.length = n1) (ht : n0 + n1 ≤ 3198579280802) :
    Calls Tryd.prog 34 #[.slice (some ⟨b, 0, none⟩) 2 cap] w (CatPost w (l0 ++ l1)) := by
  have := cat_any b 0 2 cap (pick2 a0 a1) (pick2 n0 n1) (pick2 c0 c1) (pick2 l0 l1) w (by omega)
    (forall2 (p := fun i => w.cell? ⟨b, 0 + i, none⟩ = some (.slice (pick2 a0 a1 i) (pick2 n0 n1 i) (pick2 c0 c1 i))) h0 h1) (forall2 (p := fun i => Sl w (.slice (pick2 a0 a1 i) (pick2 n0 n1 i) (pick2 c0 c1 i)) (pick2 n0 n1 i) (cells (pick2 l0 l1 i))) s0 s1) (forall2 (p := fun i => (pick2 l0 l1 i).length = pick2 n0 n1 i) e0 e1) (by simp only [tot, pick2]; omega)
  simpa [cat, pick2] using this
def CatFrom (w : World) (l : List Ev) (e : Ending) (w' : World) : Prop :=
  ∃ a cap, e = .returned (.slice a l.length cap) ∧ Sl w' (.slice a l.length cap) l.length (cells l) ∧ w'.ownsRow w.heap.size 43 8 (.slice a l.length cap) l.length (cells l) ∧ Below w.heap.size w w'
theorem own_up {w : World} {base base' n : Nat} {v : Value} {xs : List Value} (h : w.ownsRow base' 43 8 v n xs) (hb : base ≤ base') : w.ownsRow base 43 8 v n xs := by
  obtain ⟨h1, h2 | ⟨g, cap, cur, h3, h4, h5⟩⟩ := h
  · exact ⟨h1, .inl h2⟩
  · exact ⟨h1, .inr ⟨g, cap, cur, h3, Nat.le_trans hb h4, h5⟩⟩
theorem cat_new' (w : World) (a0 a1 : Option Addr) (c0 c1 : Nat) (l0 l1 : List Ev) (s0 : Sl w (.slice a0 l0.length c0) l0.length (cells l0)) (s1 : Sl w (.slice a1 l1.length c1) l1.length (cells l1)) (ht : l0.length + l1.length ≤ 3198579280802) :
    Calls Tryd.prog 34 #[.slice (some ⟨w.heap.size, 0, none⟩) 2 2] (w.alloc (.cells #[.slice a0 l0.length c0, .slice a1 l1.length c1] 22)) (CatFrom w (l0 ++ l1)) := by
  have hb : Below w.heap.size w (w.alloc (.cells #[.slice a0 l0.length c0, .slice a1 l1.length c1] 22)) := by go_grown
  refine (cat_two _ _ a0 a1 _ _ c0 c1 l0 l1 _ (by simp) (by simp) (s0.ext hb) (s1.ext hb) rfl rfl ht).mono ?_
  rintro e w' ⟨a, cap, rfl, h1, h2, h3⟩
  exact ⟨a, cap, rfl, h1, own_up h2 (by simp), ext_trans hb h3⟩
end CCCatE
end Go.Proofs.YtacchooggifnhaaDoor
namespace Go.Proofs.YtacchooggifnhaaDoor
open Go.RowKit Go.Sort Go.Lib
theorem flatK_get (U : List Ev) (t : Nat) (ht : t < U.length * 8) : (U.flatMap evL)[t]? = some (flatK evL 8 U.toArray)[t]! := by
  rw [get_flatK _ _ _ _ (by simpa using ht)]
  have h1 : t / 8 < U.length := by omega
  have h2 : U[t / 8]? = some U.toArray[t / 8]! := by rw [getElem!_pos U.toArray _ (by simpa using h1)]; simp [h1]
  have h3 : t % 8 < (evL U.toArray[t / 8]!).length := by rw [evL_len]; omega
  have := flat_get evL_len U (t / 8) _ h2 (t % 8) _ (List.getElem?_eq_getElem h3)
  rw [show t / 8 * 8 + t % 8 = t by omega] at this
  rw [this, getElem!_pos (evL U.toArray[t / 8]!) _ h3]
theorem row_of_own {w : World} {base : Nat} {v : Value} {U : List Ev} (h : w.ownsRow base 43 8 v U.length (U.flatMap evL)) :
    (v = .slice none 0 0 ∧ U = []) ∨ ∃ g cap, v = .slice (some ⟨g, 0, none⟩) U.length cap ∧ base ≤ g ∧ U.length ≤ cap ∧ cap ≤ maxLen ∧ RowK evL 8 w g 0 U.toArray := by
  obtain ⟨h1, ⟨rfl, h2⟩ | ⟨g, cap, cur, rfl, hb, hg, hn, hm, hs, ht⟩⟩ := h
  · exact .inl ⟨rfl, List.length_eq_zero_iff.1 h2⟩
  · refine .inr ⟨g, cap, rfl, hb, hn, hm, evL_len, evL_one, fun j hj => ?_, (Array.getElem?_eq_some_iff.1 hg).1⟩
    have hj' : j < U.length * 8 := by simpa using hj
    have h3 := flatK_get U j hj'
    rw [← ht, List.getElem?_take_of_lt hj'] at h3
    constructor
    · simp only [World.cell?, hg, Nat.zero_add]
      simpa using h3
    · simp [World.frozen?, hg]
set_option maxHeartbeats 2000000 in
theorem stable_nil (g : Nat) (w : World) : Calls Tryd.prog 68 #[.slice none 0 0, .int .i64 0, .func (.func g) #[] #[]] w fun e w' => e = .returned (.tuple #[]) ∧ w = w' := by
  go_enter Tryd.func68, Tryd.ntmps68
  go_wp2
  go_rounds 1
  go_rounds 1
  go_rounds 1
  go_end0
  exact ⟨rfl, rfl⟩
set_option maxHeartbeats 2000000 in
theorem sort_nil (g : Nat) (w : World) : Calls Tryd.prog 43 #[.slice none 0 0, .func (.func g) #[] #[]] w fun e w' => e = .returned (.tuple #[]) ∧ w = w' := by
  go_enter Tryd.func43, Tryd.ntmps43
  go_wp2_with (go_at_call 68; refine (stable_nil _ _).mono ?_; rintro e w' ⟨rfl, rfl⟩)
  go_end0
  exact ⟨rfl, rfl⟩
set_option maxHeartbeats 2000000 in
theorem compact_nil (w : World) : Calls Tryd.prog 44 #[.slice none 0 0] w fun e w' => e = .returned (.slice none 0 0) ∧ w = w' := by
  go_enter Tryd.func44, Tryd.ntmps44
  go_wp2
  go_ret
  exact ⟨rfl, rfl⟩
def zev : Array Value := #[.string ⟨#[]⟩, .int .i64 0, .int .i64 0, .int .i64 0, .string ⟨#[]⟩, .string ⟨#[]⟩, .int .i64 0, .int .i64 0]
theorem compact_ev (blk cap : Nat) (d : Array Ev) (w : World) (R : RowK evL 8 w blk 0 d) (hsz : d.size < 4611686018427387904) (hcap : d.size ≤ cap) (hcm : cap ≤ maxLen) :
    Calls Tryd.prog 44 #[.slice (some ⟨blk, 0, none⟩) d.size cap] w (St.CptPost evL blk 0 cap (compactUpTo d d.size) w) :=
  St.compact_at 8 St.lay Tryd.func44 evL eql_ev neq_ev guard_ev zev rfl
    (by intro v hv; simp only [zev, List.mem_cons, List.not_mem_nil, or_false] at hv; rcases hv with rfl | rfl | rfl | rfl | rfl | rfl | rfl | rfl <;> rfl) (by omega) (fun w => by kernel_rfl) blk 0 cap d w R hsz hcap hcm
/-- What unite leaves. -/
def UnitePost (B : Nat) (U : List Ev) (w : World) (e : Ending) (w' : World) : Prop :=
  (∃ (C : List Ev) (a : Option Addr) (cap : Nat), e = .returned (.tuple #[.slice a C.length cap, .bool true]) ∧ Sl w' (.slice a C.length cap) C.length (C.flatMap evL) ∧ Asc C ∧ (∀ x, x ∈ C ↔ x ∈ U) ∧ Below B w w') ∨
  (e = .returned (.tuple #[.slice none 0 0, .bool false]) ∧ ¬ NoClash U ∧ Below B w w')
abbrev S88 (W : World) (b1 o1 : Nat) (e1 : Ev) (b2 o2 : Nat) (e2 : Ev) (w' : World) : Prop :=
  Below W.heap.size W w' ∧ C8 w' b1 o1 e1 ∧ C8 w' b2 o2 e2
theorem S88.start {W : World} {b1 o1 : Nat} {e1 : Ev} {b2 o2 : Nat} {e2 : Ev} (h1 : C8 W b1 o1 e1) (h2 : C8 W b2 o2 e2) : S88 W b1 o1 e1 b2 o2 e2 W.drew := ⟨(Below.refl _ _).drew, h1, h2⟩
theorem S88.ext {W w1 w2 : World} {b1 o1 : Nat} {e1 : Ev} {b2 o2 : Nat} {e2 : Ev} (hb : Below w1.heap.size w1 w2) (h : S88 W b1 o1 e1 b2 o2 e2 w1) : S88 W b1 o1 e1 b2 o2 e2 w2 :=
  ⟨ext_trans h.1 hb, C8.ext hb h.2.1, C8.ext hb h.2.2⟩
set_option maxRecDepth 100000 in
set_option maxHeartbeats 4000000 in
theorem unite_at (B : Nat) (U : List Ev) (v : Value) (w : World) (hB : B ≤ w.heap.size) (hown : w.ownsRow B 43 8 v U.length (U.flatMap evL)) (hl : U.length < 1152921504606846976) :
    Calls Tryd.prog 33 #[v] w (UnitePost B U w) := by
  rcases row_of_own hown with ⟨rfl, rfl⟩ | ⟨g, cap, rfl, hg, hcap, hcm, R⟩
  · clear hown
    have HP : Hid (UnitePost B [] w (.returned (.tuple #[.slice none 0 0, .bool true])) w) := .inl ⟨[], none, 0, rfl, Sl.nil w, List.Pairwise.nil, fun x => Iff.rfl, Below.refl _ _⟩
    go_enter Tryd.func33, Tryd.ntmps33
    go_wp2_with (first | (go_at_call 43; refine (sort_nil _ _).mono ?_; rintro e w' ⟨rfl, rfl⟩) | (go_at_call 44; refine (compact_nil _).mono ?_; rintro e w' ⟨rfl, rfl⟩))
    go_rounds 1
    go_ret2
    exact HP.out
  · clear hown
    have hs := St.sortStable_at evL ordE ordE_swo 25 #[] g 0 cap U.toArray w (fun _ _ => by rfl) (order_lays g 0 _ w) R (by simpa using hl)
    rw [show U.toArray.size = U.length by simp] at hs
    have HR : Aside _ := R
    have HCM := Lib.hid hcm
    clear R hcm
    go_enter Tryd.func33, Tryd.ntmps33
    go_wp2_with fail
    refine hs.mono ?_
    rintro e w1 ⟨rfl, d', hp, hso, hS⟩
    clear hs
    have hds : d'.size = U.length := by have := hp.1; simpa using this
    have hR1 : RowK evL 8 w1 g 0 d' := ⟨evL_len, evL_one, hS.holds HR.out.hblk HR.out.hH (by rw [hds]; simp), hS.lt HR.out.hblk⟩
    have hc := compact_ev g cap d' w1 hR1 (by omega) (by omega) HCM.out
    rw [hds] at hc
    have HB1 : Hid (Below B w w1) := St.SWK.below hS hg HR.out.hblk
    have hcs := cpt_sorted (U := U) (d' := d') (by simpa using hp) (by simpa using hso)
    rw [hds] at hcs
    have HCS := Lib.hid hcs
    clear hp hso hS hR1 hcs hds HR
    generalize compactUpTo d' U.length = C at hc HCS
    go_wp2_with fail
    refine hc.mono ?_
    rintro e w2 ⟨rfl, s2, hb2⟩
    have HB2 : Hid (Below B w w2) := HB1.out.trans (hb2 B hg)
    have hB2 : B ≤ w2.heap.size := Nat.le_trans hB HB2.out.size
    have hlen := s2.len_le
    clear hc hb2 HB1
    go_wp2
    go_loopw [4] (fun i wr => ∃ k : Nat, k ≤ C.length ∧ i = .int .i64 ((k : Int) + 1) ∧ Hid (∀ j, j < k → ∀ x y, C[j]? = some x → C[j + 1]? = some y → ordE x y ≠ 0) ∧ Below w2.heap.size w2 wr) (fun i _ => C.length + 1 - (intOf i).toNat)
    case atStart => exact ⟨0, by omega, rfl, fun j hj => by omega, Below.refl _ _⟩
    case round =>
      obtain ⟨k, hk, rfl, HK, hb⟩ := hrel
      by_cases hlt : k + 1 < C.length
      · have hg1 := List.getElem?_eq_getElem hlt
        have hg0 := List.getElem?_eq_getElem (show k < C.length by omega)
        generalize C[k + 1] = y at hg1
        generalize C[k] = x at hg0
        obtain ⟨b, o, ha, e0, e1, e2, e3, e4, e5, e6, e7⟩ := ev_cells (s2.ext hb) hg0
        obtain ⟨b', o', ha', f0, f1, f2, f3, f4, f5, f6, f7⟩ := ev_cells (s2.ext hb) hg1
        cases ha
        cases ha'
        have HG0 := Lib.hid hg0
        have HG1 := Lib.hid hg1
        clear hg0 hg1
        simp only [Nat.zero_add] at e0 e1 e2 e3 e4 e5 e6 e7 f0 f1 f2 f3 f4 f5 f6 f7
        have hj0 : (0 : Int) ≤ (k : Int) := Int.natCast_nonneg _
        have hj1 : (k : Int) < (C.length : Int) := by omega
        have hp0 : (0 : Int) ≤ (k : Int) + 1 := by omega
        have hp1 : (k : Int) + 1 < (C.length : Int) := by omega
        have hpt : ((k : Int) + 1).toNat = k + 1 := by omega
        have hwj : IntKind.i64.wrap (k : Int) = (k : Int) := IntWalk.i64_in _ (by omega)
        go_wp2_with fail
        go_region_held3 (S88 wr g (k * 8) x g ((k + 1) * 8) y) (first | exact S88.start ⟨e0, e1, e2, e3, e4, e5, e6, e7⟩ ⟨f0, f1, f2, f3, f4, f5, f6, f7⟩ | exact S88.ext (by with_reducible assumption) (by with_reducible assumption) | assumption) (first | (go_at_call 25; refine (event_order x y _).mono ?_; rintro e w3 ⟨rfl, hb3⟩))
        have hb4 := ext_trans hb.drew hb3
        clear hwj e0 e1 e2 e3 e4 e5 e6 e7 f0 f1 f2 f3 f4 f5 f6 f7 hb3
        by_cases ho : ordE x y = 0
        · have hoe : (ordE x y == 0) = true := by simp [ho]
          have HP : Hid (UnitePost B U w (.returned (.tuple #[.slice none 0 0, .bool false])) w3) := .inr ⟨rfl, clash_of HCS.out.1 HCS.out.2 HG0.out HG1.out ho, HB2.out.trans (hb4.mono hB2)⟩
          clear ho
          go_wp2
          go_ret2
          exact HP.out
        · have hoe : (ordE x y == 0) = false := by simp [ho]
          have HK2 : Hid (∀ j, j < k + 1 → ∀ x y, C[j]? = some x → C[j + 1]? = some y → ordE x y ≠ 0) := by
            intro j hj p q hpp hqq
            by_cases e : j = k
            · subst e
              rw [HG0.out] at hpp; rw [HG1.out] at hqq
              cases hpp; cases hqq; exact ho
            · exact HK.out j (by omega) p q hpp hqq
          clear ho
          go_wp2
          go_roundw
          case rel => exact ⟨k + 1, by omega, by go_num, HK2, hb4⟩
          case measure => simp [intOf]; omega
      · have HP : Hid (UnitePost B U w (.returned (.tuple #[.slice (some ⟨g, 0, none⟩) C.length cap, .bool true])) wr) := by
          refine .inl ⟨C, _, _, rfl, s2.ext hb, asc_of HCS.out.2 (fun j x y hx hy => ?_), HCS.out.1, HB2.out.trans (hb.mono hB2)⟩
          have := (List.getElem?_eq_some_iff.1 hy).1
          exact HK.out j (by omega) x y hx hy
        have hge : ¬ (k : Int) + 1 < (C.length : Int) := by omega
        go_wp2
        go_ret2
        exact HP.out
end Go.Proofs.YtacchooggifnhaaDoor
namespace Go.Proofs.YtacchooggifnhaaDoor
open Go.RowKit Go.Sort Go.Lib
def JoinSpec (a b R : List Ev) (F : Int) : Prop :=
  (checkL a ≠ 0 ∧ R = [] ∧ F = checkL a) ∨ (checkL a = 0 ∧ checkL b ≠ 0 ∧ R = [] ∧ F = checkL b) ∨ (checkL a = 0 ∧ checkL b = 0 ∧ ¬ NoClash (a ++ b) ∧ R = [] ∧ F = 13) ∨
  (checkL a = 0 ∧ checkL b = 0 ∧ ∃ M, Asc M ∧ (∀ x, x ∈ M ↔ x ∈ a ++ b) ∧ ((20000 < M.length ∨ 50 < (shardsOf M).length) ∧ R = [] ∧ F = 2 ∨ ¬ (20000 < M.length ∨ 50 < (shardsOf M).length) ∧ R = M ∧ F = 0))
theorem noClash_mem {U M : List Ev} (h : ∀ x, x ∈ M ↔ x ∈ U) (hn : NoClash M) : NoClash U := fun x hx y hy h0 => hn x ((h x).2 hx) y ((h y).2 hy) h0
theorem JoinSpec.unique {a b R R' : List Ev} {F F' : Int} (h : JoinSpec a b R F) (k : JoinSpec a b R' F') : R = R' ∧ F = F' := by
  rcases h with ⟨h1, rfl, rfl⟩ | ⟨h1, h2, rfl, rfl⟩ | ⟨h1, h2, h3, rfl, rfl⟩ | ⟨h1, h2, M, h3, h4, h5⟩ <;>
  rcases k with ⟨k1, rfl, rfl⟩ | ⟨k1, k2, rfl, rfl⟩ | ⟨k1, k2, k3, rfl, rfl⟩ | ⟨k1, k2, M', k3, k4, k5⟩ <;>
  first
  | exact ⟨rfl, rfl⟩
  | (exfalso; omega)
  | (exfalso; exact h3 (noClash_mem k4 (asc_noClash k3)))
  | (exfalso; exact k3 (noClash_mem h4 (asc_noClash h3)))
  | (obtain rfl := asc_unique h3 k3 (fun x => (h4 x).trans (k4 x).symm)
     rcases h5 with ⟨h5, rfl, rfl⟩ | ⟨h5, rfl, rfl⟩ <;> rcases k5 with ⟨k5, rfl, rfl⟩ | ⟨k5, rfl, rfl⟩ <;> first | exact ⟨rfl, rfl⟩ | exact absurd h5 k5 | exact absurd k5 h5)
theorem checkL_le {l : List Ev} (h : checkL l = 0) : l.length ≤ 20000 := by
  unfold checkL at h
  by_cases h1 : 20000 < l.length
  · rw [if_pos h1] at h; omega
  · omega
def JoinPost (a b : List Ev) (w : World) (e : Ending) (w' : World) : Prop :=
  ∃ (R : List Ev) (F : Int) (ad : Option Addr) (cap : Nat), e = .returned (.tuple #[.slice ad R.length cap, .int .i64 F]) ∧ Sl w' (.slice ad R.length cap) R.length (R.flatMap evL) ∧ JoinSpec a b R F ∧ Below w.heap.size w w'
theorem join_none {a b : List Ev} {w w' : World} {F : Int} (h : JoinSpec a b [] F) (hb : Below w.heap.size w w') : JoinPost a b w (.returned (.tuple #[.slice none 0 0, .int .i64 F])) w' :=
  ⟨[], F, none, 0, rfl, Sl.nil _, h, hb⟩
set_option maxHeartbeats 4000000 in
theorem event_Join (la lb : List Ev) (hoka : ∀ e ∈ la, e.ok) (hokb : ∀ e ∈ lb, e.ok) (a b : Option Addr) (ca cb : Nat) (w : World)
    (sa : Sl w (.slice a la.length ca) la.length (la.flatMap evL)) (sb : Sl w (.slice b lb.length cb) lb.length (lb.flatMap evL)) :
    Calls Tryd.prog 18 #[.slice a la.length ca, .slice b lb.length cb] w (JoinPost la lb w) := by
  have HA := Lib.hid hoka
  have HB := Lib.hid hokb
  clear hoka hokb
  go_enter Tryd.func18, Tryd.ntmps18
  go_wp2
  refine wp_box1 fun W hsz hbW hX => ?_
  clear hsz
  have c0 := hX.2 0
  have c1 := hX.2 1
  have hXs := hX.1
  clear hX
  simp only [List.getElem?_toArray, List.getElem?_cons_zero, List.getElem?_cons_succ] at c0 c1
  go_loopw [15] (fun i wr => ∃ k : Nat, k ≤ 2 ∧ i = .int .i64 k ∧ Hid (0 < k → checkL la = 0) ∧ Hid (1 < k → checkL lb = 0) ∧ Below W.heap.size W wr) (fun i _ => 2 - (intOf i).toNat)
  case atStart => exact ⟨0, by omega, rfl, fun h => by omega, fun h => by omega, Below.refl _ _⟩
  case round =>
    obtain ⟨k, hk, rfl, H0, H1, hb⟩ := hrel
    have hbw := ext_trans hbW hb
    by_cases hk0 : k = 0
    · subst hk0
      have e0 := (hb.cell (p := ⟨w.heap.size, 0, none⟩) hXs).trans c0
      clear c0 c1
      go_wp2_with fail
      refine (event_CheckLog la HA.out a ca _ (sa.ext hbw)).mono ?_
      rintro e w2 ⟨rfl, hb2⟩
      clear e0
      by_cases hc : checkL la = 0
      · have hne : (checkL la != 0) = false := by simp [hc]
        have HC := Lib.hid hc
        clear hc
        go_wp2
        go_roundw
        case rel => exact ⟨1, by omega, rfl, fun _ => HC.out, fun h => by omega, ext_trans hb hb2⟩
        case measure => simp [intOf]
      · have hne : (checkL la != 0) = true := by simp [hc]
        have HP : Hid (JoinPost la lb w (.returned (.tuple #[.slice none 0 0, .int .i64 (checkL la)])) w2) := join_none (.inl ⟨hc, rfl, rfl⟩) (ext_trans hbw hb2)
        clear hc
        go_wp2
        go_ret2
        exact HP.out
    · by_cases hk1 : k = 1
      · subst hk1
        have e1 := (hb.cell (p := ⟨w.heap.size, 1, none⟩) hXs).trans c1
        clear c0 c1
        go_wp2_with fail
        refine (event_CheckLog lb HB.out b cb _ (sb.ext hbw)).mono ?_
        rintro e w2 ⟨rfl, hb2⟩
        clear e1
        by_cases hc : checkL lb = 0
        · have hne : (checkL lb != 0) = false := by simp [hc]
          have HC := Lib.hid hc
          clear hc
          go_wp2
          go_roundw
          case rel => exact ⟨2, by omega, rfl, fun _ => H0.out (by omega), fun _ => HC.out, ext_trans hb hb2⟩
          case measure => simp [intOf]
        · have hne : (checkL lb != 0) = true := by simp [hc]
          have HP : Hid (JoinPost la lb w (.returned (.tuple #[.slice none 0 0, .int .i64 (checkL lb)])) w2) := join_none (.inr (.inl ⟨H0.out (by omega), hc, rfl, rfl⟩)) (ext_trans hbw hb2)
          clear hc
          go_wp2
          go_ret2
          exact HP.out
      · obtain rfl : k = 2 := by omega
        have HA0 := Lib.hid (H0.out (by omega))
        have HB0 := Lib.hid (H1.out (by omega))
        clear H0 H1 hk0 hk1 c0 c1
        have hla := checkL_le HA0.out
        have hlb := checkL_le HB0.out
        go_wp2_with fail
        refine (CCCatE.cat_new' wr a b ca cb la lb (sa.ext hbw) (sb.ext hbw) (by omega)).mono ?_
        rintro e w2 ⟨a2, cap2, rfl, s2, hown, hb2⟩
        have hu := unite_at wr.heap.size (la ++ lb) _ w2 hb2.size hown (by rw [List.length_append]; omega)
        rw [List.length_append] at hu
        clear s2 hown
        go_wp2_with fail
        refine hu.mono ?_
        rintro e w3 (⟨C, a3, cap3, rfl, s3, hasc, hmem, hb3⟩ | ⟨rfl, hn, hb3⟩)
        · have hb4 := ext_trans hbw (hb2.trans hb3)
          have HAS := Lib.hid hasc
          have HM := Lib.hid hmem
          clear hasc hmem hu hb2 hb3
          have hlen := s3.len_le
          by_cases hbig : 20000 < C.length
          · have HP : Hid (JoinPost la lb w (.returned (.tuple #[.slice none 0 0, .int .i64 2])) w3) := join_none (.inr (.inr (.inr ⟨HA0.out, HB0.out, C, HAS.out, HM.out, .inl ⟨.inl hbig, rfl, rfl⟩⟩))) hb4
            have hbz : decide ((20000 : Int) < (C.length : Int)) = true := decide_eq_true (by omega)
            go_wp2
            go_ret2
            exact HP.out
          · have hbz : decide ((20000 : Int) < (C.length : Int)) = false := decide_eq_false (by omega)
            have hsl := shardsTo_le C C.length
            go_wp2_with fail
            refine (event_shards C a3 cap3 _ s3).mono ?_
            rintro e w5 ⟨rfl, hb5⟩
            by_cases hsh : 50 < (shardsOf C).length
            · have HP : Hid (JoinPost la lb w (.returned (.tuple #[.slice none 0 0, .int .i64 2])) w5) := join_none (.inr (.inr (.inr ⟨HA0.out, HB0.out, C, HAS.out, HM.out, .inl ⟨.inr hsh, rfl, rfl⟩⟩))) (ext_trans hb4 hb5)
              go_wp2
              go_ret2
              exact HP.out
            · have HP : Hid (JoinPost la lb w (.returned (.tuple #[.slice a3 C.length cap3, .int .i64 0])) w5) :=
                ⟨C, 0, a3, cap3, rfl, s3.ext hb5, .inr (.inr (.inr ⟨HA0.out, HB0.out, C, HAS.out, HM.out, .inr ⟨fun h => h.elim hbig hsh, rfl, rfl⟩⟩)), ext_trans hb4 hb5⟩
              go_wp2
              go_ret2
              exact HP.out
        · have HP : Hid (JoinPost la lb w (.returned (.tuple #[.slice none 0 0, .int .i64 13])) w3) := join_none (.inr (.inr (.inl ⟨HA0.out, HB0.out, hn, rfl, rfl⟩))) (ext_trans hbw (hb2.trans hb3))
          clear hn
          go_wp2
          go_ret2
          exact HP.out
end Go.Proofs.YtacchooggifnhaaDoor
namespace Go.Proofs.YtacchooggifnhaaDoor
theorem ite_eight (b : Bool) (x : Int) (h : (if b = true then (8 : Int) else x) = 0) : x = 0 := by cases b <;> simp_all
theorem scan_zero : ∀ (p : Option Ev) (l : List Ev), scanFrom p l = 0 → ∀ e ∈ l, checkE e = 0
  | _, [], _, e, he => by cases he
  | p, x :: l, h, e, he => by
    simp only [scanFrom] at h
    by_cases hx : checkE x = 0
    · rw [if_neg (by simp [hx])] at h
      have h' := ite_eight _ _ h
      rcases List.mem_cons.1 he with rfl | he
      · exact hx
      · exact scan_zero _ l h' e he
    · rw [if_pos hx] at h; omega
theorem checkL_all {l : List Ev} (h : checkL l = 0) : ∀ x ∈ l, checkE x = 0 := by
  unfold checkL at h
  by_cases h1 : 20000 < l.length
  · rw [if_pos h1] at h; cases h
  · rw [if_neg h1] at h
    by_cases h2 : scanFrom none l = 0
    · exact scan_zero none l h2
    · rw [if_pos h2] at h; exact absurd h h2
theorem scan_asc : ∀ (p : Option Ev) (l : List Ev), (∀ x ∈ l, checkE x = 0) → Asc l → (∀ q, p = some q → ∀ x ∈ l, ordE q x < 0) → scanFrom p l = 0
  | _, [], _, _, _ => rfl
  | p, e :: r, hc, ha, hp => by
    obtain ⟨a1, a2⟩ := List.pairwise_cons.1 ha
    unfold scanFrom
    rw [if_neg (by simp [hc e (by simp)]), if_neg]
    · exact scan_asc (some e) r (fun x hx => hc x (by simp [hx])) a2 (fun q hq x hx => by cases hq; exact a1 x hx)
    · cases p with
      | none => simp
      | some q => have := hp q rfl e (by simp); simp; omega
theorem checkL_asc {M : List Ev} (ha : Asc M) (hc : ∀ x ∈ M, checkE x = 0) : checkL M = if 20000 < M.length ∨ 50 < (shardsOf M).length then 2 else 0 := by
  unfold checkL
  have h0 := scan_asc none M hc ha (fun q hq => by cases hq)
  by_cases h1 : 20000 < M.length
  · rw [if_pos h1, if_pos (.inl h1)]
  · rw [if_neg h1, if_neg (by simp [h0])]
    by_cases h2 : 50 < (shardsOf M).length
    · rw [if_pos h2, if_pos (.inr h2)]
    · rw [if_neg h2, if_neg (by omega)]
end Go.Proofs.YtacchooggifnhaaDoor
